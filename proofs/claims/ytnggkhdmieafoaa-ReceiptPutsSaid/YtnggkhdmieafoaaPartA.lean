/- ReceiptPuts: the law's own code. No condition. -/
import Derived.Test.YtnggkhdmieafoaaWordsC
import Derived.Test.YtnggkhdmieafoaaProg
set_option linter.unusedVariables false
set_option linter.unusedSimpArgs false
namespace Go.WL.T1
def tab_3_8 : List (List Nat) := [[], [], [], [1, 2], [2, 1, 3], [], [], [5, 6], [6, 5, 7], [3, 1, 2, 4, 7, 5, 6, 8], [8, 6, 5, 7, 4, 2, 1, 3, 9], [0, 9, 3, 1, 2, 4, 7, 5, 6, 8, 10], [10, 8, 6, 5, 7, 4, 2, 1, 3, 9, 0, 11]]
def tab_3_10 : List (List Nat) := [[], [0], [0, 1], [], [1, 0, 2, 3], [3, 4, 1, 0, 2], [2, 0, 1, 4, 3, 5], [2, 0, 1, 4, 3, 5], [6, 7, 2, 0, 1, 4, 3, 5], [2, 0, 1, 4, 3, 5], [2, 0, 1, 4, 3, 5], [9, 10, 2, 0, 1, 4, 3, 5], [7, 6, 8, 10, 9, 11, 2, 0, 1, 4, 3, 5], [11, 9, 10, 8, 6, 7, 12, 2, 0, 1, 4, 3, 5], [2, 0, 1, 4, 3, 5], [12, 7, 6, 8, 10, 9, 11, 13, 14, 2, 0, 1, 4, 3, 5], [5, 3, 4, 1, 0, 2, 14, 13, 11, 9, 10, 8, 6, 7, 12, 15], [15, 14, 16, 5, 3, 4, 1, 0, 2, 12, 7, 6, 8, 10, 9, 11, 13], [13, 11, 9, 10, 8, 6, 7, 12, 2, 0, 1, 4, 3, 5, 16, 14, 15, 17], [18, 13, 11, 9, 10, 8, 6, 7, 12, 2, 0, 1, 4, 3, 5, 16, 14, 15, 17], [18, 19, 13, 11, 9, 10, 8, 6, 7, 12, 2, 0, 1, 4, 3, 5, 16, 14, 15, 17], [13, 11, 9, 10, 8, 6, 7, 12, 2, 0, 1, 4, 3, 5, 16, 14, 15, 17], [13, 11, 9, 10, 8, 6, 7, 12, 2, 0, 1, 4, 3, 5, 16, 14, 15, 17], [13, 11, 9, 10, 8, 6, 7, 12, 2, 0, 1, 4, 3, 5, 16, 14, 15, 17], [23, 13, 11, 9, 10, 8, 6, 7, 12, 2, 0, 1, 4, 3, 5, 16, 14, 15, 17], [22, 23, 24, 13, 11, 9, 10, 8, 6, 7, 12, 2, 0, 1, 4, 3, 5, 16, 14, 15, 17], [24, 23, 22, 25, 13, 11, 9, 10, 8, 6, 7, 12, 2, 0, 1, 4, 3, 5, 16, 14, 15, 17], [25, 22, 23, 24, 26, 19, 18, 20, 13, 11, 9, 10, 8, 6, 7, 12, 2, 0, 1, 4, 3, 5, 16, 14, 15, 17], [21, 20, 18, 19, 26, 24, 23, 22, 25, 27, 13, 11, 9, 10, 8, 6, 7, 12, 2, 0, 1, 4, 3, 5, 16, 14, 15, 17], [27, 25, 22, 23, 24, 26, 19, 18, 20, 21, 28, 13, 11, 9, 10, 8, 6, 7, 12, 2, 0, 1, 4, 3, 5, 16, 14, 15, 17], [17, 15, 14, 16, 5, 3, 4, 1, 0, 2, 12, 7, 6, 8, 10, 9, 11, 13, 28, 21, 20, 18, 19, 26, 24, 23, 22, 25, 27, 29], [29, 21, 28, 30, 17, 15, 14, 16, 5, 3, 4, 1, 0, 2, 12, 7, 6, 8, 10, 9, 11, 13, 20, 18, 19, 26, 24, 23, 22, 25, 27], [27, 25, 22, 23, 24, 26, 19, 18, 20, 13, 11, 9, 10, 8, 6, 7, 12, 2, 0, 1, 4, 3, 5, 16, 14, 15, 17, 30, 28, 21, 29, 31], [31, 29, 21, 28, 30, 17, 15, 14, 16, 5, 3, 4, 1, 0, 2, 12, 7, 6, 8, 10, 9, 11, 13, 20, 18, 19, 26, 24, 23, 22, 25, 27, 32], [32, 27, 25, 22, 23, 24, 26, 19, 18, 20, 13, 11, 9, 10, 8, 6, 7, 12, 2, 0, 1, 4, 3, 5, 16, 14, 15, 17, 30, 28, 21, 29, 31, 33]]
def tab_4_1 : List (List Nat) := [[], [], [0, 1], [], [], [3, 4, 1, 0, 2], [2, 0, 1, 4, 3, 5], [6, 2, 0, 1, 4, 3, 5], [5, 3, 4, 1, 0, 2, 6, 7], [5, 3, 4, 1, 0, 2, 6, 7], [5, 3, 4, 1, 0, 2, 6, 7], [10, 5, 3, 4, 1, 0, 2, 6, 7], [8, 9, 10, 11, 5, 3, 4, 1, 0, 2, 6, 7], [5, 3, 4, 1, 0, 2, 6, 7], [5, 3, 4, 1, 0, 2, 6, 7], [5, 3, 4, 1, 0, 2, 6, 7], [15, 5, 3, 4, 1, 0, 2, 6, 7], [13, 14, 15, 16, 11, 10, 9, 8, 12, 5, 3, 4, 1, 0, 2, 6, 7], [12, 8, 9, 10, 11, 16, 15, 14, 13, 17, 5, 3, 4, 1, 0, 2, 6, 7], [7, 6, 2, 0, 1, 4, 3, 5, 17, 13, 14, 15, 16, 11, 10, 9, 8, 12, 18]]
def tab_4_7 : List (List Nat) := [[], [], [1], [], [], [4], [0, 1, 2, 3, 4, 5], [], [], [8], [], [], [11], [7, 8, 9, 10, 11, 12, 5, 4, 3, 2, 1, 0, 6], [6, 0, 1, 2, 3, 4, 5, 12, 11, 10, 9, 8, 7, 13], [14, 6, 0, 1, 2, 3, 4, 5, 12, 11, 10, 9, 8, 7, 13], [13, 7, 8, 9, 10, 11, 12, 5, 4, 3, 2, 1, 0, 6, 14, 15], [15, 14, 6, 0, 1, 2, 3, 4, 5, 12, 11, 10, 9, 8, 7, 13, 16], [16, 13, 7, 8, 9, 10, 11, 12, 5, 4, 3, 2, 1, 0, 6, 14, 15, 17]]
def tab_6_3 : List (List Nat) := [[], [], [1], [0, 1, 2], [], [4], [4, 5, 2, 1, 0, 3], [], [7], [7, 8, 3, 0, 1, 2, 5, 4, 6], [6, 4, 5, 2, 1, 0, 3, 8, 7, 9]]
def tab_6_4 : List (List Nat) := [[], [], [], [1, 2], [], [4, 2, 1, 3], [3, 1, 2, 4, 5], [0, 5, 4, 2, 1, 3, 6], [6, 3, 1, 2, 4, 5, 0, 7], [7, 0, 5, 4, 2, 1, 3, 6, 8], [8, 6, 3, 1, 2, 4, 5, 0, 7, 9], [9, 7, 0, 5, 4, 2, 1, 3, 6, 8, 10]]
def tab_9_9 : List (List Nat) := [[], [], [], [1, 2], [2, 1, 3], [3, 1, 2, 4], [0, 4, 2, 1, 3, 5], [], [], [7, 8], [8, 7, 9], [9, 7, 8, 10], [10, 8, 7, 9, 11, 5, 3, 1, 2, 4, 0, 6], [], [], [13, 14], [14, 13, 15], [15, 13, 14, 16], [16, 14, 13, 15, 17, 6, 0, 4, 2, 1, 3, 5, 11, 9, 7, 8, 10, 12], [12, 10, 8, 7, 9, 11, 5, 3, 1, 2, 4, 0, 6, 17, 15, 13, 14, 16, 18]]
def tab_9_14 : List (List Nat) := [[], [0], [], [], [2, 3], [3, 2, 4], [4, 2, 3, 5], [0, 1, 5, 3, 2, 4, 6], [6, 4, 2, 3, 5, 7, 0, 1], [1, 0, 7, 5, 3, 2, 4, 6, 8], [9, 1, 0, 7, 5, 3, 2, 4, 6, 8], [1, 0, 7, 5, 3, 2, 4, 6, 8], [1, 0, 7, 5, 3, 2, 4, 6, 8], [11, 12, 1, 0, 7, 5, 3, 2, 4, 6, 8], [12, 11, 13, 1, 0, 7, 5, 3, 2, 4, 6, 8], [13, 11, 12, 14, 1, 0, 7, 5, 3, 2, 4, 6, 8], [14, 12, 11, 13, 15, 9, 10, 1, 0, 7, 5, 3, 2, 4, 6, 8], [10, 9, 15, 13, 11, 12, 14, 16, 1, 0, 7, 5, 3, 2, 4, 6, 8], [8, 6, 4, 2, 3, 5, 7, 0, 1, 16, 14, 12, 11, 13, 15, 9, 10, 17], [17, 18, 8, 6, 4, 2, 3, 5, 7, 0, 1, 10, 9, 15, 13, 11, 12, 14, 16], [16, 14, 12, 11, 13, 15, 9, 10, 1, 0, 7, 5, 3, 2, 4, 6, 8, 18, 17, 19], [20, 16, 14, 12, 11, 13, 15, 9, 10, 1, 0, 7, 5, 3, 2, 4, 6, 8, 18, 17, 19], [16, 14, 12, 11, 13, 15, 9, 10, 1, 0, 7, 5, 3, 2, 4, 6, 8, 18, 17, 19], [16, 14, 12, 11, 13, 15, 9, 10, 1, 0, 7, 5, 3, 2, 4, 6, 8, 18, 17, 19], [22, 23, 16, 14, 12, 11, 13, 15, 9, 10, 1, 0, 7, 5, 3, 2, 4, 6, 8, 18, 17, 19], [23, 22, 24, 16, 14, 12, 11, 13, 15, 9, 10, 1, 0, 7, 5, 3, 2, 4, 6, 8, 18, 17, 19], [24, 22, 23, 25, 16, 14, 12, 11, 13, 15, 9, 10, 1, 0, 7, 5, 3, 2, 4, 6, 8, 18, 17, 19], [20, 21, 25, 23, 22, 24, 26, 16, 14, 12, 11, 13, 15, 9, 10, 1, 0, 7, 5, 3, 2, 4, 6, 8, 18, 17, 19], [19, 17, 18, 8, 6, 4, 2, 3, 5, 7, 0, 1, 10, 9, 15, 13, 11, 12, 14, 16, 26, 24, 22, 23, 25, 21, 20, 27]]
def tab_10_27 : List (List Nat) := [[], [0], [], [0, 1, 2], [2, 1, 0, 3]]
def tab_10_28 : List (List Nat) := [[], [0], [0, 1], [1, 0, 2], [3, 1, 0, 2], [1, 0, 2], [5, 1, 0, 2], [1, 0, 2], [7, 1, 0, 2], [5, 6, 7, 8, 1, 0, 2], [3, 4, 8, 7, 6, 5, 9, 1, 0, 2], [2, 0, 1, 9, 5, 6, 7, 8, 4, 3, 10], [10, 8, 7, 6, 5, 9, 11, 2, 0, 1, 3, 4], [4, 3, 1, 0, 2, 11, 9, 5, 6, 7, 8, 10, 12], [13, 4, 3, 1, 0, 2, 11, 9, 5, 6, 7, 8, 10, 12], [4, 3, 1, 0, 2, 11, 9, 5, 6, 7, 8, 10, 12], [15, 4, 3, 1, 0, 2, 11, 9, 5, 6, 7, 8, 10, 12], [13, 14, 15, 16, 4, 3, 1, 0, 2, 11, 9, 5, 6, 7, 8, 10, 12], [12, 10, 8, 7, 6, 5, 9, 11, 2, 0, 1, 3, 4, 16, 15, 14, 13, 17], [17, 15, 16, 18, 12, 10, 8, 7, 6, 5, 9, 11, 2, 0, 1, 3, 4, 13, 14], [14, 13, 4, 3, 1, 0, 2, 11, 9, 5, 6, 7, 8, 10, 12, 18, 16, 15, 17, 19], [20, 14, 13, 4, 3, 1, 0, 2, 11, 9, 5, 6, 7, 8, 10, 12, 18, 16, 15, 17, 19], [14, 13, 4, 3, 1, 0, 2, 11, 9, 5, 6, 7, 8, 10, 12, 18, 16, 15, 17, 19], [22, 14, 13, 4, 3, 1, 0, 2, 11, 9, 5, 6, 7, 8, 10, 12, 18, 16, 15, 17, 19], [22, 23, 14, 13, 4, 3, 1, 0, 2, 11, 9, 5, 6, 7, 8, 10, 12, 18, 16, 15, 17, 19], [23, 22, 24, 20, 21, 14, 13, 4, 3, 1, 0, 2, 11, 9, 5, 6, 7, 8, 10, 12, 18, 16, 15, 17, 19], [19, 17, 15, 16, 18, 12, 10, 8, 7, 6, 5, 9, 11, 2, 0, 1, 3, 4, 13, 14, 21, 20, 24, 22, 23, 25], [26, 19, 17, 15, 16, 18, 12, 10, 8, 7, 6, 5, 9, 11, 2, 0, 1, 3, 4, 13, 14, 21, 20, 24, 22, 23, 25], [19, 17, 15, 16, 18, 12, 10, 8, 7, 6, 5, 9, 11, 2, 0, 1, 3, 4, 13, 14, 21, 20, 24, 22, 23, 25], [28, 19, 17, 15, 16, 18, 12, 10, 8, 7, 6, 5, 9, 11, 2, 0, 1, 3, 4, 13, 14, 21, 20, 24, 22, 23, 25], [26, 27, 28, 29, 19, 17, 15, 16, 18, 12, 10, 8, 7, 6, 5, 9, 11, 2, 0, 1, 3, 4, 13, 14, 21, 20, 24, 22, 23, 25], [25, 23, 22, 24, 20, 21, 29, 28, 27, 26, 30, 14, 13, 4, 3, 1, 0, 2, 11, 9, 5, 6, 7, 8, 10, 12, 18, 16, 15, 17, 19], [30, 26, 27, 28, 29, 21, 20, 24, 22, 23, 25, 31, 14, 13, 4, 3, 1, 0, 2, 11, 9, 5, 6, 7, 8, 10, 12, 18, 16, 15, 17, 19], [19, 17, 15, 16, 18, 12, 10, 8, 7, 6, 5, 9, 11, 2, 0, 1, 3, 4, 13, 14, 31, 25, 23, 22, 24, 20, 21, 29, 28, 27, 26, 30, 32]]
def tab_11_23 : List (List Nat) := [[], [], [0, 1], [1, 0, 2], [], [], [4, 5], [5, 4, 6], [2, 0, 1, 3, 6, 4, 5, 7], [7, 5, 4, 6, 3, 1, 0, 2, 8], [9, 7, 5, 4, 6, 3, 1, 0, 2, 8], [8, 2, 0, 1, 3, 6, 4, 5, 7, 9, 10], [8, 2, 0, 1, 3, 6, 4, 5, 7, 9, 10], [11, 12, 8, 2, 0, 1, 3, 6, 4, 5, 7, 9, 10], [12, 11, 13, 8, 2, 0, 1, 3, 6, 4, 5, 7, 9, 10], [13, 11, 12, 14, 8, 2, 0, 1, 3, 6, 4, 5, 7, 9, 10], [14, 12, 11, 13, 15, 8, 2, 0, 1, 3, 6, 4, 5, 7, 9, 10], [10, 9, 7, 5, 4, 6, 3, 1, 0, 2, 8, 15, 13, 11, 12, 14, 16]]
def tab_11_33 : List (List Nat) := [[], [], [], [], [2, 3], [3, 2, 4], [4, 2, 3, 5], [1, 5, 3, 2, 4, 6], [6, 4, 2, 3, 5, 1, 7], [0, 7, 1, 5, 3, 2, 4, 6, 8], [8, 6, 4, 2, 3, 5, 1, 7, 0, 9]]
def tab_11_34 : List (List Nat) := [[], [], [], [], [2, 3], [3, 2, 4], [4, 2, 3, 5], [0, 1, 5, 3, 2, 4, 6], [], [6, 4, 2, 3, 5, 1, 0, 7, 8]]
def tab_11_40 : List (List Nat) := [[], [], [], [1, 2], [0, 2, 1, 3], [], [], [6], [5, 6, 7], [7, 6, 5, 8, 3, 1, 2, 0, 4], [4, 0, 2, 1, 3, 8, 5, 6, 7, 9]]
def tab_11_47 : List (List Nat) := [[], [], [0, 1], [1, 0, 2], [], [], [4, 5], [5, 4, 6], [6, 4, 5, 7], [2, 0, 1, 3, 7, 5, 4, 6, 8]]
def tab_27_1 : List (List Nat) := [[], [0], [], [2, 0, 1], [1, 0, 2, 3]]
def tab_30_6 : List (List Nat) := [[], [], [0, 1], [1, 0, 2], [], [], [4, 5], [5, 4, 6], [2, 0, 1, 3, 6, 4, 5, 7]]
def tab_31_1 : List (List Nat) := [[], [0], [0, 1], [], [3], [3, 4, 1, 0, 2], [2, 0, 1, 4, 3, 5], [5, 3, 4, 1, 0, 2, 6]]
def tab_33_10 : List (List Nat) := [[], [0], [], [0, 1, 2], [2, 1, 0, 3], [], [5], [5, 6, 3, 0, 1, 2, 4], [4, 2, 1, 0, 3, 6, 5, 7]]
def tab_34_3 : List (List Nat) := [[], [0], [0, 1], [1, 0, 2], [2, 0, 1, 3], [], [5], [5, 6], [6, 5, 7], [7, 5, 6, 8], [3, 1, 0, 2, 4, 8, 6, 5, 7, 9], [], [11], [11, 12], [12, 11, 13], [13, 11, 12, 14], [9, 7, 5, 6, 8, 4, 2, 0, 1, 3, 10, 14, 12, 11, 13, 15], [], [17], [17, 18], [18, 17, 19], [15, 13, 11, 12, 14, 10, 3, 1, 0, 2, 4, 8, 6, 5, 7, 9, 16, 19, 17, 18, 20], [20, 18, 17, 19, 16, 9, 7, 5, 6, 8, 4, 2, 0, 1, 3, 10, 14, 12, 11, 13, 15, 21]]
def tab_34_9 : List (List Nat) := [[], [0], [], [], [3], [2, 3, 4], [4, 3, 2, 5, 0, 1], [1, 0, 5, 2, 3, 4, 6]]
def tab_39_7 : List (List Nat) := [[], [], [1], [1, 2], [2, 1, 3], [0, 3, 1, 2, 4]]
def tab_41_11 : List (List Nat) := [[], [0], [], [2], [], [4], [], [6], [], [6, 7, 8], [8, 7, 6, 9], [2, 3, 4, 5, 9, 6, 7, 8, 10], [10, 8, 7, 6, 9, 5, 4, 3, 2, 11, 0, 1], [1, 0, 11, 2, 3, 4, 5, 9, 6, 7, 8, 10, 12]]
def tab_43_4 : List (List Nat) := [[], [], [0], [1, 0, 2]]
def tab_43_10 : List (List Nat) := [[], [], [0], [1, 0, 2]]
def tab_50_4 : List (List Nat) := [[], [], [0, 1], [1, 0, 2], [2, 0, 1, 3], [], [3, 1, 0, 2, 4, 5]]
def tab_51_11 : List (List Nat) := [[], [], [1], [1, 2], [2, 1, 3], [], [], [5, 6], [6, 5, 7], [3, 1, 2, 4, 7, 5, 6, 8], [0, 8, 6, 5, 7, 4, 2, 1, 3, 9], [10, 0, 8, 6, 5, 7, 4, 2, 1, 3, 9], [10, 11, 0, 8, 6, 5, 7, 4, 2, 1, 3, 9]]
def tab_53_8 : List (List Nat) := [[], [], [], [], [], [4], [], [6], [2, 3, 4, 5, 6, 7], [], [9], [1, 7, 6, 5, 4, 3, 2, 8, 9, 10], [10, 9, 8, 2, 3, 4, 5, 6, 7, 1, 11], [0, 11, 1, 9, 10, 12, 7, 6, 5, 4, 3, 2, 8], [8, 2, 3, 4, 5, 6, 7, 12, 10, 9, 1, 11, 0, 13]]
def tab_54_9 : List (List Nat) := [[], [], [1], [1, 2], [2, 1, 3], [], [5], [5, 6], [6, 5, 7], [], [9], [9, 10], [10, 9, 11], [3, 1, 2, 4, 7, 5, 6, 8, 11, 9, 10, 12], [12, 10, 9, 11, 8, 6, 5, 7, 4, 2, 1, 3, 13], [0, 13, 3, 1, 2, 4, 7, 5, 6, 8, 11, 9, 10, 12, 14], [14, 12, 10, 9, 11, 8, 6, 5, 7, 4, 2, 1, 3, 13, 0, 15]]
def tab_63_1 : List (List Nat) := [[], [0], [0, 1], [], [3], [3, 4], [4, 3, 5, 1, 0, 2], [2, 0, 1, 5, 3, 4, 6], [6, 4, 3, 5, 1, 0, 2, 7]]
def tab_71_1 : List (List Nat) := [[], [0], [0, 1], [1, 0, 2], [2, 0, 1, 3], [], [5], [5, 6], [6, 5, 7], [7, 5, 6, 8], [3, 1, 0, 2, 4, 8, 6, 5, 7, 9], [], [11], [11, 12], [12, 11, 13], [13, 11, 12, 14], [9, 7, 5, 6, 8, 4, 2, 0, 1, 3, 10, 14, 12, 11, 13, 15], [], [17], [17, 18], [18, 17, 19], [15, 13, 11, 12, 14, 10, 3, 1, 0, 2, 4, 8, 6, 5, 7, 9, 16, 19, 17, 18, 20], [20, 18, 17, 19, 16, 9, 7, 5, 6, 8, 4, 2, 0, 1, 3, 10, 14, 12, 11, 13, 15, 21]]
def tab_76_5 : List (List Nat) := [[], [], [0, 1], [], [], [3, 4], [1, 0, 2, 4, 3, 5], [5, 3, 4, 2, 0, 1, 6]]
def tab_79_6 : List (List Nat) := [[], [0], [], [0, 1, 2], [2, 1, 0, 3], [], [5], [], [5, 6, 7], [7, 6, 5, 8], [3, 0, 1, 2, 4, 8, 5, 6, 7, 9]]
def tab_80_6 : List (List Nat) := [[], [0], [], [0, 1, 2], [2, 1, 0, 3], [], [5], [], [5, 6, 7], [7, 6, 5, 8], [3, 0, 1, 2, 4, 8, 5, 6, 7, 9]]
def tab_81_6 : List (List Nat) := [[], [0], [], [0, 1, 2], [2, 1, 0, 3], [], [5], [], [5, 6, 7], [7, 6, 5, 8], [3, 0, 1, 2, 4, 8, 5, 6, 7, 9]]
def tab_84_4 : List (List Nat) := [[], [0], [], [0, 1, 2], [2, 1, 0, 3], [3, 0, 1, 2, 4], [4, 2, 1, 0, 3, 5], [5, 3, 0, 1, 2, 4, 6], [7, 5, 3, 0, 1, 2, 4, 6], [5, 3, 0, 1, 2, 4, 6], [7, 8, 9, 5, 3, 0, 1, 2, 4, 6], [9, 8, 7, 10, 5, 3, 0, 1, 2, 4, 6], [10, 7, 8, 9, 11, 5, 3, 0, 1, 2, 4, 6], [6, 4, 2, 1, 0, 3, 5, 11, 9, 8, 7, 10, 12], [12, 10, 7, 8, 9, 11, 13, 5, 3, 0, 1, 2, 4, 6], [6, 4, 2, 1, 0, 3, 5, 13, 11, 9, 8, 7, 10, 12, 14], [15, 6, 4, 2, 1, 0, 3, 5, 13, 11, 9, 8, 7, 10, 12, 14], [15, 16, 6, 4, 2, 1, 0, 3, 5, 13, 11, 9, 8, 7, 10, 12, 14], [14, 12, 10, 7, 8, 9, 11, 13, 5, 3, 0, 1, 2, 4, 6, 16, 15, 17], [18, 14, 12, 10, 7, 8, 9, 11, 13, 5, 3, 0, 1, 2, 4, 6, 16, 15, 17], [14, 12, 10, 7, 8, 9, 11, 13, 5, 3, 0, 1, 2, 4, 6, 16, 15, 17], [20, 14, 12, 10, 7, 8, 9, 11, 13, 5, 3, 0, 1, 2, 4, 6, 16, 15, 17], [18, 19, 20, 21, 14, 12, 10, 7, 8, 9, 11, 13, 5, 3, 0, 1, 2, 4, 6, 16, 15, 17], [21, 20, 19, 18, 22, 14, 12, 10, 7, 8, 9, 11, 13, 5, 3, 0, 1, 2, 4, 6, 16, 15, 17], [14, 12, 10, 7, 8, 9, 11, 13, 5, 3, 0, 1, 2, 4, 6, 16, 15, 17], [24, 14, 12, 10, 7, 8, 9, 11, 13, 5, 3, 0, 1, 2, 4, 6, 16, 15, 17], [14, 12, 10, 7, 8, 9, 11, 13, 5, 3, 0, 1, 2, 4, 6, 16, 15, 17], [24, 25, 26, 14, 12, 10, 7, 8, 9, 11, 13, 5, 3, 0, 1, 2, 4, 6, 16, 15, 17], [26, 25, 24, 27, 14, 12, 10, 7, 8, 9, 11, 13, 5, 3, 0, 1, 2, 4, 6, 16, 15, 17], [22, 18, 19, 20, 21, 23, 27, 24, 25, 26, 28, 14, 12, 10, 7, 8, 9, 11, 13, 5, 3, 0, 1, 2, 4, 6, 16, 15, 17], [17, 15, 16, 28, 26, 25, 24, 27, 23, 21, 20, 19, 18, 22, 29, 6, 4, 2, 1, 0, 3, 5, 13, 11, 9, 8, 7, 10, 12, 14], [14, 12, 10, 7, 8, 9, 11, 13, 5, 3, 0, 1, 2, 4, 6, 29, 22, 18, 19, 20, 21, 23, 27, 24, 25, 26, 28, 16, 15, 17, 30]]
end Go.WL.T1
namespace Go.WL.T1
open Go.WL Go.Proofs
def tab : List (Nat × TI) := [
  (2, { k := .int .i64, sh := .lf, bytes := 8, zero := .sc (.int .i64 0) }),
  (3, { k := .int .i64, sh := .lf, bytes := 8, zero := .sc (.int .i64 0) }),
  (4, { k := .bool, sh := .lf, bytes := 1, zero := .sc (.bool false) }),
  (5, { k := .int .u8, sh := .lf, bytes := 1, zero := .sc (.int .u8 0) }),
  (9, { k := .str, sh := .lf, bytes := 16, zero := .sc (.string .empty) }),
  (12, { k := .int .u64, sh := .lf, bytes := 8, zero := .sc (.int .u64 0) }),
  (21, { k := .int .i32, sh := .lf, bytes := 4, zero := .sc (.int .i32 0) }),
  (22, { k := .slice 5, sh := .lf, bytes := 24, zero := .sl (.lf) [] .ex }),
  (23, { k := .int .u16, sh := .lf, bytes := 2, zero := .sc (.int .u16 0) }),
  (25, { k := .int .u32, sh := .lf, bytes := 4, zero := .sc (.int .u32 0) }),
  (29, { k := .strct [(3, 0), (3, 1)], sh := .nd [.lf, .lf], bytes := 16, zero := .st [.sc (.int .i64 0), .sc (.int .i64 0)] }),
  (30, { k := .strct [(3, 0), (3, 1)], sh := .nd [.lf, .lf], bytes := 16, zero := .st [.sc (.int .i64 0), .sc (.int .i64 0)] }),
  (35, { k := .slice 3, sh := .lf, bytes := 24, zero := .sl (.lf) [] .ex }),
  (37, { k := .arr 22 4, sh := .ar 22 (.lf), bytes := 22, zero := .ar 22 (.lf) (List.replicate 22 (.sc (.bool false))) }),
  (39, { k := .int .u64, sh := .lf, bytes := 8, zero := .sc (.int .u64 0) }),
  (40, { k := .arr 32 5, sh := .ar 32 (.lf), bytes := 32, zero := .ar 32 (.lf) (List.replicate 32 (.sc (.int .u8 0))) }),
  (41, { k := .arr 32 5, sh := .ar 32 (.lf), bytes := 32, zero := .ar 32 (.lf) (List.replicate 32 (.sc (.int .u8 0))) }),
  (42, { k := .strct [(39, 0), (22, 1), (41, 2)], sh := .nd [.lf, .lf, .ar 32 (.lf)], bytes := 64, zero := .st [.sc (.int .u64 0), .sl (.lf) [] .ex, .ar 32 (.lf) (List.replicate 32 (.sc (.int .u8 0)))] }),
  (43, { k := .strct [(39, 0), (22, 1), (41, 2)], sh := .nd [.lf, .lf, .ar 32 (.lf)], bytes := 64, zero := .st [.sc (.int .u64 0), .sl (.lf) [] .ex, .ar 32 (.lf) (List.replicate 32 (.sc (.int .u8 0)))] }),
  (50, { k := .int .i64, sh := .lf, bytes := 8, zero := .sc (.int .i64 0) }),
  (58, { k := .int .u64, sh := .lf, bytes := 8, zero := .sc (.int .u64 0) }),
  (60, { k := .slice 43, sh := .lf, bytes := 24, zero := .sl (.nd [.lf, .lf, .ar 32 (.lf)]) [] .ex }),
  (61, { k := .ptr 135, sh := .lf, bytes := 8, zero := .sc (.pointer none) }),
  (67, { k := .strct [(22, 0), (3, 1), (4, 2)], sh := .nd [.lf, .lf, .lf], bytes := 40, zero := .st [.sl (.lf) [] .ex, .sc (.int .i64 0), .sc (.bool false)] }),
  (68, { k := .strct [(22, 0), (3, 1), (4, 2)], sh := .nd [.lf, .lf, .lf], bytes := 40, zero := .st [.sl (.lf) [] .ex, .sc (.int .i64 0), .sc (.bool false)] }),
  (79, { k := .slice 85, sh := .lf, bytes := 24, zero := .sl (.nd [.lf, .lf, .lf]) [] .ex }),
  (80, { k := .ptr 116, sh := .lf, bytes := 8, zero := .sc (.pointer none) }),
  (83, { k := .slice 88, sh := .lf, bytes := 24, zero := .sl (.nd [.ar 32 (.lf), .lf, .lf, .lf]) [] .ex }),
  (84, { k := .strct [(3, 0), (5, 1), (3, 2)], sh := .nd [.lf, .lf, .lf], bytes := 24, zero := .st [.sc (.int .i64 0), .sc (.int .u8 0), .sc (.int .i64 0)] }),
  (85, { k := .strct [(3, 0), (5, 1), (3, 2)], sh := .nd [.lf, .lf, .lf], bytes := 24, zero := .st [.sc (.int .i64 0), .sc (.int .u8 0), .sc (.int .i64 0)] }),
  (87, { k := .strct [(41, 0), (3, 32), (3, 33), (3, 34)], sh := .nd [.ar 32 (.lf), .lf, .lf, .lf], bytes := 56, zero := .st [.ar 32 (.lf) (List.replicate 32 (.sc (.int .u8 0))), .sc (.int .i64 0), .sc (.int .i64 0), .sc (.int .i64 0)] }),
  (88, { k := .strct [(41, 0), (3, 32), (3, 33), (3, 34)], sh := .nd [.ar 32 (.lf), .lf, .lf, .lf], bytes := 56, zero := .st [.ar 32 (.lf) (List.replicate 32 (.sc (.int .u8 0))), .sc (.int .i64 0), .sc (.int .i64 0), .sc (.int .i64 0)] }),
  (91, { k := .slice 109, sh := .lf, bytes := 24, zero := .sl (.nd [.lf, .lf, .lf, .nd [.lf, .lf, .lf, .lf, .ar 32 (.lf), .lf, .ar 32 (.lf), .ar 32 (.lf)], .nd [.nd [.lf, .lf, .lf, .lf, .ar 32 (.lf), .lf, .ar 32 (.lf), .ar 32 (.lf)], .lf], .nd [.lf, .lf, .lf, .ar 32 (.lf), .lf, .ar 32 (.lf)], .nd [.ar 32 (.lf), .lf, .lf, .lf, .lf], .ar 32 (.lf), .nd [.lf, .lf, .lf, .lf, .lf, .lf, .lf]]) [] .ex }),
  (96, { k := .strct [(3, 0), (3, 1), (3, 2), (3, 3), (41, 4), (3, 36), (41, 37), (41, 69)], sh := .nd [.lf, .lf, .lf, .lf, .ar 32 (.lf), .lf, .ar 32 (.lf), .ar 32 (.lf)], bytes := 136, zero := .st [.sc (.int .i64 0), .sc (.int .i64 0), .sc (.int .i64 0), .sc (.int .i64 0), .ar 32 (.lf) (List.replicate 32 (.sc (.int .u8 0))), .sc (.int .i64 0), .ar 32 (.lf) (List.replicate 32 (.sc (.int .u8 0))), .ar 32 (.lf) (List.replicate 32 (.sc (.int .u8 0)))] }),
  (97, { k := .strct [(3, 0), (3, 1), (3, 2), (3, 3), (41, 4), (3, 36), (41, 37), (41, 69)], sh := .nd [.lf, .lf, .lf, .lf, .ar 32 (.lf), .lf, .ar 32 (.lf), .ar 32 (.lf)], bytes := 136, zero := .st [.sc (.int .i64 0), .sc (.int .i64 0), .sc (.int .i64 0), .sc (.int .i64 0), .ar 32 (.lf) (List.replicate 32 (.sc (.int .u8 0))), .sc (.int .i64 0), .ar 32 (.lf) (List.replicate 32 (.sc (.int .u8 0))), .ar 32 (.lf) (List.replicate 32 (.sc (.int .u8 0)))] }),
  (98, { k := .slice 156, sh := .lf, bytes := 24, zero := .sl (.nd [.lf, .ar 32 (.lf)]) [] .ex }),
  (99, { k := .strct [(97, 0), (98, 101)], sh := .nd [.nd [.lf, .lf, .lf, .lf, .ar 32 (.lf), .lf, .ar 32 (.lf), .ar 32 (.lf)], .lf], bytes := 160, zero := .st [.st [.sc (.int .i64 0), .sc (.int .i64 0), .sc (.int .i64 0), .sc (.int .i64 0), .ar 32 (.lf) (List.replicate 32 (.sc (.int .u8 0))), .sc (.int .i64 0), .ar 32 (.lf) (List.replicate 32 (.sc (.int .u8 0))), .ar 32 (.lf) (List.replicate 32 (.sc (.int .u8 0)))], .sl (.nd [.lf, .ar 32 (.lf)]) [] .ex] }),
  (100, { k := .strct [(97, 0), (98, 101)], sh := .nd [.nd [.lf, .lf, .lf, .lf, .ar 32 (.lf), .lf, .ar 32 (.lf), .ar 32 (.lf)], .lf], bytes := 160, zero := .st [.st [.sc (.int .i64 0), .sc (.int .i64 0), .sc (.int .i64 0), .sc (.int .i64 0), .ar 32 (.lf) (List.replicate 32 (.sc (.int .u8 0))), .sc (.int .i64 0), .ar 32 (.lf) (List.replicate 32 (.sc (.int .u8 0))), .ar 32 (.lf) (List.replicate 32 (.sc (.int .u8 0)))], .sl (.nd [.lf, .ar 32 (.lf)]) [] .ex] }),
  (101, { k := .strct [(3, 0), (3, 1), (3, 2), (41, 3), (35, 35), (41, 36)], sh := .nd [.lf, .lf, .lf, .ar 32 (.lf), .lf, .ar 32 (.lf)], bytes := 112, zero := .st [.sc (.int .i64 0), .sc (.int .i64 0), .sc (.int .i64 0), .ar 32 (.lf) (List.replicate 32 (.sc (.int .u8 0))), .sl (.lf) [] .ex, .ar 32 (.lf) (List.replicate 32 (.sc (.int .u8 0)))] }),
  (102, { k := .strct [(3, 0), (3, 1), (3, 2), (41, 3), (35, 35), (41, 36)], sh := .nd [.lf, .lf, .lf, .ar 32 (.lf), .lf, .ar 32 (.lf)], bytes := 112, zero := .st [.sc (.int .i64 0), .sc (.int .i64 0), .sc (.int .i64 0), .ar 32 (.lf) (List.replicate 32 (.sc (.int .u8 0))), .sl (.lf) [] .ex, .ar 32 (.lf) (List.replicate 32 (.sc (.int .u8 0)))] }),
  (103, { k := .slice 107, sh := .lf, bytes := 24, zero := .sl (.nd [.lf, .lf, .lf, .lf, .lf, .lf, .lf]) [] .ex }),
  (104, { k := .strct [(41, 0), (3, 32), (3, 33), (3, 34), (103, 35)], sh := .nd [.ar 32 (.lf), .lf, .lf, .lf, .lf], bytes := 80, zero := .st [.ar 32 (.lf) (List.replicate 32 (.sc (.int .u8 0))), .sc (.int .i64 0), .sc (.int .i64 0), .sc (.int .i64 0), .sl (.nd [.lf, .lf, .lf, .lf, .lf, .lf, .lf]) [] .ex] }),
  (105, { k := .strct [(41, 0), (3, 32), (3, 33), (3, 34), (103, 35)], sh := .nd [.ar 32 (.lf), .lf, .lf, .lf, .lf], bytes := 80, zero := .st [.ar 32 (.lf) (List.replicate 32 (.sc (.int .u8 0))), .sc (.int .i64 0), .sc (.int .i64 0), .sc (.int .i64 0), .sl (.nd [.lf, .lf, .lf, .lf, .lf, .lf, .lf]) [] .ex] }),
  (106, { k := .strct [(3, 0), (3, 1), (3, 2), (3, 3), (3, 4), (9, 5), (9, 6)], sh := .nd [.lf, .lf, .lf, .lf, .lf, .lf, .lf], bytes := 72, zero := .st [.sc (.int .i64 0), .sc (.int .i64 0), .sc (.int .i64 0), .sc (.int .i64 0), .sc (.int .i64 0), .sc (.string .empty), .sc (.string .empty)] }),
  (107, { k := .strct [(3, 0), (3, 1), (3, 2), (3, 3), (3, 4), (9, 5), (9, 6)], sh := .nd [.lf, .lf, .lf, .lf, .lf, .lf, .lf], bytes := 72, zero := .st [.sc (.int .i64 0), .sc (.int .i64 0), .sc (.int .i64 0), .sc (.int .i64 0), .sc (.int .i64 0), .sc (.string .empty), .sc (.string .empty)] }),
  (108, { k := .strct [(3, 0), (3, 1), (3, 2), (97, 3), (100, 104), (102, 206), (105, 274), (41, 310), (107, 342)], sh := .nd [.lf, .lf, .lf, .nd [.lf, .lf, .lf, .lf, .ar 32 (.lf), .lf, .ar 32 (.lf), .ar 32 (.lf)], .nd [.nd [.lf, .lf, .lf, .lf, .ar 32 (.lf), .lf, .ar 32 (.lf), .ar 32 (.lf)], .lf], .nd [.lf, .lf, .lf, .ar 32 (.lf), .lf, .ar 32 (.lf)], .nd [.ar 32 (.lf), .lf, .lf, .lf, .lf], .ar 32 (.lf), .nd [.lf, .lf, .lf, .lf, .lf, .lf, .lf]], bytes := 616, zero := .st [.sc (.int .i64 0), .sc (.int .i64 0), .sc (.int .i64 0), .st [.sc (.int .i64 0), .sc (.int .i64 0), .sc (.int .i64 0), .sc (.int .i64 0), .ar 32 (.lf) (List.replicate 32 (.sc (.int .u8 0))), .sc (.int .i64 0), .ar 32 (.lf) (List.replicate 32 (.sc (.int .u8 0))), .ar 32 (.lf) (List.replicate 32 (.sc (.int .u8 0)))], .st [.st [.sc (.int .i64 0), .sc (.int .i64 0), .sc (.int .i64 0), .sc (.int .i64 0), .ar 32 (.lf) (List.replicate 32 (.sc (.int .u8 0))), .sc (.int .i64 0), .ar 32 (.lf) (List.replicate 32 (.sc (.int .u8 0))), .ar 32 (.lf) (List.replicate 32 (.sc (.int .u8 0)))], .sl (.nd [.lf, .ar 32 (.lf)]) [] .ex], .st [.sc (.int .i64 0), .sc (.int .i64 0), .sc (.int .i64 0), .ar 32 (.lf) (List.replicate 32 (.sc (.int .u8 0))), .sl (.lf) [] .ex, .ar 32 (.lf) (List.replicate 32 (.sc (.int .u8 0)))], .st [.ar 32 (.lf) (List.replicate 32 (.sc (.int .u8 0))), .sc (.int .i64 0), .sc (.int .i64 0), .sc (.int .i64 0), .sl (.nd [.lf, .lf, .lf, .lf, .lf, .lf, .lf]) [] .ex], .ar 32 (.lf) (List.replicate 32 (.sc (.int .u8 0))), .st [.sc (.int .i64 0), .sc (.int .i64 0), .sc (.int .i64 0), .sc (.int .i64 0), .sc (.int .i64 0), .sc (.string .empty), .sc (.string .empty)]] }),
  (109, { k := .strct [(3, 0), (3, 1), (3, 2), (97, 3), (100, 104), (102, 206), (105, 274), (41, 310), (107, 342)], sh := .nd [.lf, .lf, .lf, .nd [.lf, .lf, .lf, .lf, .ar 32 (.lf), .lf, .ar 32 (.lf), .ar 32 (.lf)], .nd [.nd [.lf, .lf, .lf, .lf, .ar 32 (.lf), .lf, .ar 32 (.lf), .ar 32 (.lf)], .lf], .nd [.lf, .lf, .lf, .ar 32 (.lf), .lf, .ar 32 (.lf)], .nd [.ar 32 (.lf), .lf, .lf, .lf, .lf], .ar 32 (.lf), .nd [.lf, .lf, .lf, .lf, .lf, .lf, .lf]], bytes := 616, zero := .st [.sc (.int .i64 0), .sc (.int .i64 0), .sc (.int .i64 0), .st [.sc (.int .i64 0), .sc (.int .i64 0), .sc (.int .i64 0), .sc (.int .i64 0), .ar 32 (.lf) (List.replicate 32 (.sc (.int .u8 0))), .sc (.int .i64 0), .ar 32 (.lf) (List.replicate 32 (.sc (.int .u8 0))), .ar 32 (.lf) (List.replicate 32 (.sc (.int .u8 0)))], .st [.st [.sc (.int .i64 0), .sc (.int .i64 0), .sc (.int .i64 0), .sc (.int .i64 0), .ar 32 (.lf) (List.replicate 32 (.sc (.int .u8 0))), .sc (.int .i64 0), .ar 32 (.lf) (List.replicate 32 (.sc (.int .u8 0))), .ar 32 (.lf) (List.replicate 32 (.sc (.int .u8 0)))], .sl (.nd [.lf, .ar 32 (.lf)]) [] .ex], .st [.sc (.int .i64 0), .sc (.int .i64 0), .sc (.int .i64 0), .ar 32 (.lf) (List.replicate 32 (.sc (.int .u8 0))), .sl (.lf) [] .ex, .ar 32 (.lf) (List.replicate 32 (.sc (.int .u8 0)))], .st [.ar 32 (.lf) (List.replicate 32 (.sc (.int .u8 0))), .sc (.int .i64 0), .sc (.int .i64 0), .sc (.int .i64 0), .sl (.nd [.lf, .lf, .lf, .lf, .lf, .lf, .lf]) [] .ex], .ar 32 (.lf) (List.replicate 32 (.sc (.int .u8 0))), .st [.sc (.int .i64 0), .sc (.int .i64 0), .sc (.int .i64 0), .sc (.int .i64 0), .sc (.int .i64 0), .sc (.string .empty), .sc (.string .empty)]] }),
  (111, { k := .slice 41, sh := .lf, bytes := 24, zero := .sl (.ar 32 (.lf)) [] .ex }),
  (114, { k := .slice 140, sh := .lf, bytes := 24, zero := .sl (.nd [.ar 32 (.lf), .lf, .lf]) [] .ex }),
  (115, { k := .strct [(3, 0), (3, 1), (114, 2)], sh := .nd [.lf, .lf, .lf], bytes := 40, zero := .st [.sc (.int .i64 0), .sc (.int .i64 0), .sl (.nd [.ar 32 (.lf), .lf, .lf]) [] .ex] }),
  (116, { k := .strct [(3, 0), (3, 1), (114, 2)], sh := .nd [.lf, .lf, .lf], bytes := 40, zero := .st [.sc (.int .i64 0), .sc (.int .i64 0), .sl (.nd [.ar 32 (.lf), .lf, .lf]) [] .ex] }),
  (119, { k := .strct [(41, 0), (3, 32), (3, 33), (50, 34)], sh := .nd [.ar 32 (.lf), .lf, .lf, .lf], bytes := 56, zero := .st [.ar 32 (.lf) (List.replicate 32 (.sc (.int .u8 0))), .sc (.int .i64 0), .sc (.int .i64 0), .sc (.int .i64 0)] }),
  (120, { k := .strct [(41, 0), (3, 32), (3, 33), (50, 34)], sh := .nd [.ar 32 (.lf), .lf, .lf, .lf], bytes := 56, zero := .st [.ar 32 (.lf) (List.replicate 32 (.sc (.int .u8 0))), .sc (.int .i64 0), .sc (.int .i64 0), .sc (.int .i64 0)] }),
  (129, { k := .slice 22, sh := .lf, bytes := 24, zero := .sl (.lf) [] .ex }),
  (134, { k := .strct [(22, 0), (4, 1)], sh := .nd [.lf, .lf], bytes := 32, zero := .st [.sl (.lf) [] .ex, .sc (.bool false)] }),
  (135, { k := .strct [(22, 0), (4, 1)], sh := .nd [.lf, .lf], bytes := 32, zero := .st [.sl (.lf) [] .ex, .sc (.bool false)] }),
  (139, { k := .strct [(41, 0), (3, 32), (3, 33)], sh := .nd [.ar 32 (.lf), .lf, .lf], bytes := 48, zero := .st [.ar 32 (.lf) (List.replicate 32 (.sc (.int .u8 0))), .sc (.int .i64 0), .sc (.int .i64 0)] }),
  (140, { k := .strct [(41, 0), (3, 32), (3, 33)], sh := .nd [.ar 32 (.lf), .lf, .lf], bytes := 48, zero := .st [.ar 32 (.lf) (List.replicate 32 (.sc (.int .u8 0))), .sc (.int .i64 0), .sc (.int .i64 0)] }),
  (142, { k := .ptr 140, sh := .lf, bytes := 8, zero := .sc (.pointer none) }),
  (155, { k := .strct [(3, 0), (41, 1)], sh := .nd [.lf, .ar 32 (.lf)], bytes := 40, zero := .st [.sc (.int .i64 0), .ar 32 (.lf) (List.replicate 32 (.sc (.int .u8 0)))] }),
  (156, { k := .strct [(3, 0), (41, 1)], sh := .nd [.lf, .ar 32 (.lf)], bytes := 40, zero := .st [.sc (.int .i64 0), .ar 32 (.lf) (List.replicate 32 (.sc (.int .u8 0)))] }),
  (169, { k := .ptr 5, sh := .lf, bytes := 8, zero := .sc (.pointer none) })]

def D : Tabs := ⟨tab, []⟩
theorem tabOK : TabOK Try.prog D := tabOK_of (by decide +kernel)
theorem hmix : Try.prog.follows .mixedOrders = true := by decide +kernel
end Go.WL.T1
namespace Go.WL.T1
open Go.WL Go.Proofs
set_option maxRecDepth 20000
set_option maxHeartbeats 4000000
theorem len8 (b : List UInt8) : (by8 b).length = b.length := by simp [by8]
theorem at8 {b : List UInt8} {i : Nat} (h : i < b.length) : (by8 b)[((i : Nat) : Int).toNat]? = some ((AV.sc (.int .u8 ((b[i].toNat : Int))))) := by simp [by8, h]
theorem ne8 (x y : UInt8) : (((x.toNat : Nat) : Int) != ((y.toNat : Nat) : Int)) = (x != y) := by
  by_cases h : x = y
  · subst h; simp
  · have : ((x.toNat : Nat) : Int) ≠ ((y.toNat : Nat) : Int) := fun e => h (UInt8.toNat_inj.1 (by omega))
    rw [bne_iff_ne .. |>.2 this, bne_iff_ne .. |>.2 h]
theorem c_same0 (a b : List UInt8) (ha : a.length < 9223372036854775807) : FnOK Try.prog D 30 [(AV.sl .lf (by8 (a)) .ro), (AV.sl .lf (by8 (b)) .ro)] [] (fun r st => r = (AV.sc (.bool (a == b))) ∧ st = []) := by
  refine fnok_of_W hmix tabOK Try.func30 rfl rfl (Nat.le_of_ble_eq_true rfl) ?_
  conv => whnf
  rw [len8, len8]
  refine Branch.of (fun h => ?_) (fun h => ?_) <;> rw [h] <;> conv => whnf
  · refine ⟨false, [], ?_⟩
    conv => whnf
    refine ⟨?_, rfl⟩
    have hne : a.length ≠ b.length := by
      simp only [bne_iff_ne, ne_eq] at h
      omega
    rw [show (a == b) = false from beq_eq_false_iff_ne.2 fun e => hne (by rw [e])]
  have hl : a.length = b.length := by
    simp only [bne_eq_false_iff_eq] at h
    omega
  refine ⟨false, [0, 1, 5], fun τ => ∃ i : Nat, i ≤ a.length ∧ a.take i = b.take i ∧ τ = ⟨26, [(0, (AV.sl .lf (by8 (a)) .ro)), (1, (AV.sl .lf (by8 (b)) .ro)), (5, (AV.sc (.int .i64 ((i : Int)))))], ⟨[], [], 0⟩⟩, fun τ => a.length - (slotI τ 5).toNat, ?_, ?_⟩
  · conv => whnf
    exact ⟨0, Nat.zero_le _, by simp, rfl⟩
  · rintro τ ⟨i, i1, i2, rfl⟩
    conv => whnf
    rw [len8]
    refine Branch.of (fun h2 => ?_) (fun h2 => ?_) <;> rw [h2] <;> conv => whnf
    · simp only [decide_eq_true_eq] at h2
      have ia : i < a.length := by omega
      have ib : i < b.length := by omega
      refine ⟨tab_30_6, by decide +kernel, ?_⟩
      conv => whnf
      refine ⟨by omega, _, at8 ia, ?_⟩
      conv => whnf
      refine ⟨by omega, _, at8 ib, ?_⟩
      conv => whnf
      rw [ne8]
      generalize hx : a[i] = x
      generalize hy : b[i] = y
      refine Branch.of (fun h3 => ?_) (fun h3 => ?_) <;> rw [h3] <;> conv => whnf
      · refine ⟨false, [], ?_⟩
        conv => whnf
        refine ⟨?_, rfl⟩
        have hne : a ≠ b := by
          intro e
          subst e
          rw [hx] at hy
          subst hy
          simp at h3
        rw [show (a == b) = false from beq_eq_false_iff_ne.2 hne]
      · rw [w64 (x := (i : Int) + 1) (by omega) (by omega)]
        refine ⟨⟨i + 1, by omega, ?_, rfl⟩, ?_⟩
        · rw [List.take_succ_eq_append_getElem ia, List.take_succ_eq_append_getElem ib, i2, hx, hy]
          simp only [bne_eq_false_iff_eq] at h3
          rw [h3]
        · show a.length - ((i : Int) + 1).toNat < a.length - (i : Int).toNat
          omega
    · simp only [decide_eq_false_iff_not] at h2
      refine ⟨false, [], ?_⟩
      conv => whnf
      refine ⟨?_, rfl⟩
      have e : i = a.length := by omega
      subst e
      rw [List.take_length, hl, List.take_length] at i2
      rw [i2, beq_self_eq_true]
theorem c_same (a b : List UInt8) (ha : a.length < 9223372036854775807) {m1 m2 : Mark} (h1 : m1 = .ex ∨ m1 = .ro) (h2 : m2 = .ex ∨ m2 = .ro) : FnOK Try.prog D 30 [.sl .lf (by8 a) m1, .sl .lf (by8 b) m2] [] (fun r st => r = (AV.sc (.bool (a == b))) ∧ st = []) :=
  (c_same0 a b ha).weak (.cons (.sl h1 (Weaks.refl _)) (.cons (.sl h2 (Weaks.refl _)) .nil))
theorem c_clone0 (b : List UInt8) (hb : b.length < 4294967296) : FnOK Try.prog D 66 [(AV.sl .lf (by8 (b)) .ro)] [] (fun r st => r = (AV.sl .lf (by8 (b)) (.own 0)) ∧ st = []) := by
  refine fnok_of_W hmix tabOK Try.func66 rfl rfl (Nat.le_of_ble_eq_true rfl) ?_
  conv => whnf
  intro nl hnl
  conv => whnf
  refine Branch.of (fun h => ?_) (fun h => ?_) <;> rw [h] <;> conv => whnf
  · have hb0 : b = [] := by
      by_cases c : by8 b = []
      · simpa [by8] using c
      · rw [hnl c] at h; exact absurd h (by simp)
    subst hb0
    refine ⟨true, [], ?_⟩
    conv => whnf
    exact ⟨rfl, rfl⟩
  · refine ⟨by rw [len8]; simp; omega, ?_⟩
    conv => whnf
    refine ⟨false, [], ?_⟩
    conv => whnf
    exact ⟨rfl, rfl⟩
end Go.WL.T1
namespace Go.WL.T1
open Go.WL Go.Proofs
set_option maxRecDepth 20000
set_option maxHeartbeats 4000000
theorem c_clone (b : List UInt8) (hb : b.length < 4294967296) {m : Mark} (h : m = .ex ∨ m = .ro) : FnOK Try.prog D 66 [.sl .lf (by8 b) m] [] (fun r st => r = (AV.sl .lf (by8 (b)) (.own 0)) ∧ st = []) :=
  (c_clone0 b hb).weak (.cons (.sl h (Weaks.refl _)) .nil)
/-- A number's bytes. -/
def num (n : Nat) : List UInt8 := if n < 128 then [UInt8.ofNat n] else UInt8.ofNat (128 + n % 128) :: num (n / 128)
termination_by n
decreasing_by omega
theorem num_low {n : Nat} (h : n < 128) : num n = [UInt8.ofNat n] := by rw [num, if_pos h]
theorem num_high {n : Nat} (h : ¬ n < 128) : num n = UInt8.ofNat (128 + n % 128) :: num (n / 128) := by rw [num, if_neg h]
theorem num_len : ∀ (k n : Nat), n < 128 ^ k → 0 < k → (num n).length ≤ k
  | 0, n, _, hk => absurd hk (by omega)
  | k + 1, n, h, _ => by
    by_cases c : n < 128
    · rw [num_low c]; simp
    · rw [num_high c, List.length_cons]
      have hk : 0 < k := by
        cases k with
        | zero => rw [Nat.zero_add, Nat.pow_one] at h; omega
        | succ k => omega
      have : n / 128 < 128 ^ k := by
        rw [Nat.pow_succ] at h
        exact Nat.div_lt_of_lt_mul (by rw [Nat.mul_comm]; exact h)
      have := num_len k (n / 128) this hk
      omega
theorem num_ten {n : Nat} (h : n < 18446744073709551616) : (num n).length ≤ 10 := num_len 10 n (Nat.lt_of_lt_of_le h (by decide)) (by decide)
theorem sc8 {n : Nat} (h : n < 256) : (AV.sc (.int .u8 ((n : Nat) : Int))) = AV.sc (.int .u8 (((UInt8.ofNat n).toNat : Nat) : Int)) := by
  congr 3
  simp
  omega
theorem w8n {n : Nat} (h : n < 256) : IntKind.u8.wrap ((n : Nat) : Int) = ((n : Nat) : Int) := wu8 (by omega) (by omega)
theorem c_refnum (n : Nat) (hn : n < 18446744073709551616) : FnOK Try.prog D 67 [(AV.sc (.int .u64 ((n : Int))))] [] (fun r st => r = (AV.sl .lf (by8 (num n)) (.own 0)) ∧ st = []) := by
  induction n using Nat.strongRecOn with
  | ind n ih =>
  refine fnok_of_W hmix tabOK Try.func67 rfl rfl (Nat.le_of_ble_eq_true rfl) ?_
  conv => whnf
  refine Branch.of (fun h => ?_) (fun h => ?_) <;> rw [h] <;> conv => whnf
  · simp only [decide_eq_true_eq] at h
    have h' : n < 128 := by omega
    rw [w8n (n := n) (by omega), sc8 (n := n) (by omega)]
    refine ⟨true, [], ?_⟩
    conv => whnf
    refine ⟨?_, rfl⟩
    rw [num_low h']
    rfl
  · simp only [decide_eq_false_iff_not] at h
    have h' : ¬ n < 128 := by omega
    refine ⟨by omega, ?_⟩
    conv => whnf
    refine ⟨by omega, ?_⟩
    conv => whnf
    rw [Int.tdiv_eq_ediv_of_nonneg (by omega), Int.tmod_eq_emod_of_nonneg (by omega), show ((n : Int) / 128) = ((n / 128 : Nat) : Int) by omega, wu64 (x := ((n / 128 : Nat) : Int)) (by omega) (by omega)]
    refine (ih (n / 128) (by omega) (by omega)).mono fun r st e => ?_
    obtain ⟨rfl, rfl⟩ := e
    conv => whnf
    have hl := num_ten (n := n / 128) (by omega)
    refine ⟨by rw [len8]; simp; omega, ?_⟩
    conv => whnf
    refine ⟨false, [], ?_⟩
    conv => whnf
    refine ⟨?_, rfl⟩
    rw [show (128 + (n : Int) % 128) = ((128 + n % 128 : Nat) : Int) by omega, wu64 (x := ((128 + n % 128 : Nat) : Int)) (by omega) (by omega), w8n (n := 128 + n % 128) (by omega), sc8 (n := 128 + n % 128) (by omega), num_high h']
    rfl
theorem or8 {n : Nat} : IntKind.u8.wrap ((BitVec.ofInt IntKind.u8.bits (IntKind.u8.wrap ((n : Nat) : Int)) ||| BitVec.ofInt IntKind.u8.bits 128).toNat : Int) = ((128 + n % 128 : Nat) : Int) := by
  have each : ∀ c, c < 256 → (BitVec.ofInt 8 ((c : Nat) : Int) ||| BitVec.ofInt 8 128).toNat = 128 + c % 128 := by decide +kernel
  have e : IntKind.u8.wrap ((n : Nat) : Int) = ((n % 256 : Nat) : Int) := by
    simp [IntKind.wrap, IntKind.signed, IntKind.bits]
  rw [e]
  show IntKind.u8.wrap ((BitVec.ofInt 8 ((n % 256 : Nat) : Int) ||| BitVec.ofInt 8 128).toNat : Int) = _
  rw [each (n % 256) (by omega), w8n (by omega)]
  omega
theorem snoc8 (b : List UInt8) {n : Nat} (h : n < 256) : by8 b ++ [AV.sc (.int .u8 ((n : Nat) : Int))] = by8 (b ++ [UInt8.ofNat n]) := by
  rw [sc8 h]; simp [by8]
theorem c_num (b : List UInt8) (n : Nat) (hb : b.length < 4000000000) (hn : n < 18446744073709551616) {m : Mark} (hm : m = .ex ∨ m = .ro) : FnOK Try.prog D 29 [.sl .lf (by8 b) m, (AV.sc (.int .u64 ((n : Int))))] [] (fun r st => r = (AV.sl .lf (by8 (b ++ num n)) (.own 0)) ∧ st = []) := by
  suffices h : FnOK Try.prog D 29 [(AV.sl .lf (by8 (b)) .ro), (AV.sc (.int .u64 ((n : Int))))] [] (fun r st => r = (AV.sl .lf (by8 (b ++ num n)) (.own 0)) ∧ st = []) from h.weak (.cons (.sl hm (Weaks.refl _)) (.cons (.refl _) .nil))
  refine fnok_of_W hmix tabOK Try.func29 rfl rfl (Nat.le_of_ble_eq_true rfl) ?_
  conv => whnf
  refine (c_clone0 b (by omega)).mono fun r st e => ?_
  obtain ⟨rfl, rfl⟩ := e
  conv => whnf
  have hten := num_ten hn
  refine ⟨false, [1, 5], fun τ => ∃ (k : Nat) (p : List UInt8), p ++ num k = num n ∧ k ≤ n ∧ τ = ⟨23, [(1, (AV.sc (.int .u64 ((k : Int))))), (5, (AV.sl .lf (by8 (b ++ p)) (.own 0)))], ⟨[], [0], 1⟩⟩, fun τ => (slotI τ 1).toNat, ?_, ?_⟩
  · conv => whnf
    exact ⟨n, [], rfl, Nat.le_refl _, by rw [List.append_nil]; rfl⟩
  · rintro τ ⟨k, p, k1, k2, rfl⟩
    have hp : p.length ≤ 10 := by
      have := congrArg List.length k1
      simp at this
      omega
    conv => whnf
    refine Branch.of (fun h => ?_) (fun h => ?_) <;> rw [h] <;> conv => whnf
    · simp only [ge_iff_le, decide_eq_true_eq] at h
      have h' : ¬ k < 128 := by omega
      refine ⟨by rw [len8]; simp; omega, ?_⟩
      conv => whnf
      refine ⟨by omega, ?_⟩
      conv => whnf
      rw [or8 (n := k), snoc8 (b ++ p) (n := 128 + k % 128) (by omega)]
      have hd : Int.fdiv (k : Int) (2 ^ min (Int.toNat 7) IntKind.u64.bits) = ((k / 128 : Nat) : Int) := by
        rw [show ((2 : Int) ^ min (Int.toNat 7) IntKind.u64.bits) = 128 from rfl, Int.fdiv_eq_ediv_of_nonneg _ (by decide)]
        omega
      rw [hd]
      refine ⟨⟨k / 128, p ++ [UInt8.ofNat (128 + k % 128)], ?_, by omega, by rw [List.append_assoc]⟩, ?_⟩
      · rw [List.append_assoc, ← k1, num_high h']
        rfl
      · show (((k / 128 : Nat) : Int)).toNat < (k : Int).toNat
        omega
    · simp only [ge_iff_le, decide_eq_false_iff_not] at h
      have h' : k < 128 := by omega
      refine ⟨by rw [len8]; simp; omega, ?_⟩
      conv => whnf
      rw [w8n (n := k) (by omega), snoc8 (b ++ p) (n := k) (by omega)]
      refine ⟨false, [], ?_⟩
      conv => whnf
      refine ⟨?_, rfl⟩
      rw [List.append_assoc, ← num_low h', k1]
theorem min64 (a b : Nat) : (if ((a : Nat) : Int) ≤ ((b : Nat) : Int) then ((a : Nat) : Int) else ((b : Nat) : Int)) = ((min a b : Nat) : Int) := by
  split <;> omega
theorem by8_take (k : Nat) (b : List UInt8) : (by8 b).take k = by8 (b.take k) := by simp [by8]
theorem by8_app (a b : List UInt8) : by8 a ++ by8 b = by8 (a ++ b) := by simp [by8]
theorem cut_text (t : List UInt8) : t.take (min t.length 65536) = t.take 65536 := by
  by_cases h : t.length ≤ 65536
  · rw [Nat.min_eq_left h, List.take_of_length_le (Nat.le_refl _), List.take_of_length_le h]
  · rw [Nat.min_eq_right (by omega)]
theorem c_text0 (b t : List UInt8) (hb : b.length < 3000000000) (ht : t.length < 9223372036854775807) : FnOK Try.prog D 28 [(AV.sl .lf (by8 (b)) .ro), (AV.sl .lf (by8 (t)) .ro)] [] (fun r st => r = (AV.sl .lf (by8 (b ++ (num (t.take 65536).length ++ t.take 65536))) (.own 0)) ∧ st = []) := by
  refine fnok_of_W hmix tabOK Try.func28 rfl rfl (Nat.le_of_ble_eq_true rfl) ?_
  conv => whnf
  rw [len8, show min ((t.length : Nat) : Int) 65536 = ((min t.length 65536 : Nat) : Int) by omega]
  refine ⟨by omega, ?_⟩
  conv => whnf
  refine ⟨by omega, by omega, ?_⟩
  conv => whnf
  rw [Int.toNat_natCast, Nat.sub_zero, List.drop_zero, by8_take, cut_text]
  have hl : (t.take 65536).length ≤ 65536 := by simp; omega
  generalize t.take 65536 = u at hl
  rw [len8, wu64 (x := ((u.length : Nat) : Int)) (by omega) (by omega)]
  refine (c_num b u.length (by omega) (by omega) (.inr rfl)).mono fun r st e => ?_
  obtain ⟨rfl, rfl⟩ := e
  conv => whnf
  have hn := num_ten (n := u.length) (by omega)
  refine ⟨by rw [len8, len8]; simp; omega, ?_⟩
  conv => whnf
  rw [by8_app]
  refine ⟨false, [], ?_⟩
  conv => whnf
  exact ⟨by rw [List.append_assoc], rfl⟩
theorem c_hash0 (b h : List UInt8) (hb : b.length < 3000000000) (hh : h.length = 32) : FnOK Try.prog D 27 [(AV.sl .lf (by8 (b)) .ro), .ar 32 .lf (by8 h)] [] (fun r st => r = (AV.sl .lf (by8 (b ++ h)) (.own 0)) ∧ st = []) := by
  refine fnok_of_W hmix tabOK Try.func27 rfl rfl (Nat.le_of_ble_eq_true rfl) ?_
  conv => whnf
  refine ⟨tab_27_1, by decide +kernel, ?_⟩
  conv => whnf
  refine ⟨_, _, c_clone0 b (by omega), ?_⟩
  conv => whnf
  refine ⟨by omega, by omega, ?_⟩
  conv => whnf
  rw [show List.take (32 - 0) (List.drop 0 (by8 h)) = by8 h by rw [List.drop_zero, List.take_of_length_le (by rw [len8]; omega)], by8_app]
  refine ⟨by rw [len8, len8]; omega, ?_⟩
  conv => whnf
  refine ⟨false, [], ?_⟩
  conv => whnf
  exact ⟨rfl, rfl⟩
theorem c_reftext0 (t : List UInt8) (ht : t.length < 4000000000) : FnOK Try.prog D 68 [(AV.sl .lf (by8 (t)) .ro)] [] (fun r st => r = (AV.sl .lf (by8 (num t.length ++ t)) (.own 0)) ∧ st = []) := by
  refine fnok_of_W hmix tabOK Try.func68 rfl rfl (Nat.le_of_ble_eq_true rfl) ?_
  conv => whnf
  rw [len8, wu64 (x := ((t.length : Nat) : Int)) (by omega) (by omega)]
  refine (c_refnum t.length (by omega)).mono fun r st e => ?_
  obtain ⟨rfl, rfl⟩ := e
  conv => whnf
  have hn := num_ten (n := t.length) (by omega)
  refine ⟨by rw [len8, len8]; omega, ?_⟩
  conv => whnf
  rw [by8_app]
  refine ⟨false, [], ?_⟩
  conv => whnf
  exact ⟨rfl, rfl⟩
end Go.WL.T1
namespace Go.WL.T1
open Go.WL Go.Proofs
set_option maxRecDepth 20000
set_option maxHeartbeats 4000000
theorem c_bytes (n : Nat) (t h : List UInt8) (hn : n < 18446744073709551616) (ht : t.length < 3000000000) (hh : h.length = 32) : FnOK Try.prog D 31 [.st [(AV.sc (.int .u64 ((n : Int)))), (AV.sl .lf (by8 (t)) .ro), .ar 32 .lf (by8 h)]] [] (fun r st => r = (AV.sl .lf (by8 (num n ++ (num t.length ++ t) ++ h)) (.own 0)) ∧ st = []) := by
  refine fnok_of_W hmix tabOK Try.func31 rfl rfl (Nat.le_of_ble_eq_true rfl) ?_
  conv => whnf
  refine ⟨tab_31_1, by decide +kernel, ?_⟩
  conv => whnf
  refine ⟨_, _, c_refnum n hn, ?_⟩
  conv => whnf
  refine ⟨_, _, c_reftext0 t (by omega), ?_⟩
  conv => whnf
  have h1 := num_ten hn
  have h2 := num_ten (n := t.length) (by omega)
  refine ⟨by rw [len8, len8]; simp; omega, ?_⟩
  conv => whnf
  rw [by8_app]
  have hq : (num n ++ (num t.length ++ t)).length < 3000000030 := by simp; omega
  generalize num n ++ (num t.length ++ t) = q at hq
  refine ⟨false, [1, 3, 4], fun τ => ∃ i : Nat, i ≤ 32 ∧ τ = ⟨24, [(1, .pt 0 []), (3, (AV.sl .lf (by8 (q ++ h.take i)) (.own 0))), (4, (AV.sc (.int .i64 ((i : Int)))))], ⟨[(.st [(AV.sc (.int .u64 ((n : Int)))), (AV.sl .lf (by8 (t)) .ro), .ar 32 .lf (by8 h)], false)], [0], 1⟩⟩, fun τ => 32 - (slotI τ 4).toNat, ?_, ?_⟩
  · conv => whnf
    exact ⟨0, by omega, by rw [List.take_zero, List.append_nil]; rfl⟩
  · rintro τ ⟨i, hi, rfl⟩
    conv => whnf
    refine Branch.of (fun h3 => ?_) (fun h3 => ?_) <;> rw [h3] <;> conv => whnf
    · simp only [decide_eq_true_eq] at h3
      have ih : i < h.length := by omega
      refine ⟨by omega, by omega, ?_⟩
      conv => whnf
      refine ⟨_, at8 ih, ?_⟩
      conv => whnf
      refine ⟨by rw [len8]; simp; omega, ?_⟩
      conv => whnf
      rw [w64 (x := (i : Int) + 1) (by omega) (by omega), snoc8 (q ++ h.take i) (n := h[i].toNat) h[i].toNat_lt]
      refine ⟨⟨i + 1, by omega, ?_⟩, ?_⟩
      · rw [List.append_assoc, UInt8.ofNat_toNat, ← List.take_succ_eq_append_getElem ih]
        rfl
      · show 32 - ((i : Int) + 1).toNat < 32 - (i : Int).toNat
        omega
    · simp only [decide_eq_false_iff_not] at h3
      have e : i = 32 := by omega
      subst e
      rw [← hh, List.take_length]
      refine ⟨false, [], ?_⟩
      conv => whnf
      exact ⟨rfl, rfl⟩
theorem c_read0 (b : List UInt8) (hb : b.length < 4294967296) : FnOK Try.prog D 36 [(AV.sl .lf (by8 (b)) .ro)] [] (fun r st => r = .pt 0 [] ∧ st = [.st [(AV.sl .lf (by8 (b)) .ro), (AV.sc (.bool (false)))]]) := by
  refine fnok_of_W hmix tabOK Try.func36 rfl rfl (Nat.le_of_ble_eq_true rfl) ?_
  conv => whnf
  refine (c_clone0 b hb).mono fun r st e => ?_
  obtain ⟨rfl, rfl⟩ := e
  conv => whnf
  refine ⟨false, [0], ?_⟩
  conv => whnf
  exact ⟨rfl, rfl⟩
theorem c_off (b : List UInt8) (w : Bool) : FnOK Try.prog D 73 [.pt 0 []] [.st [(AV.sl .lf (by8 (b)) .ro), (AV.sc (.bool (w)))]] (fun r st => r = (AV.sc (.bool (w))) ∧ st = [.st [(AV.sl .lf (by8 (b)) .ro), (AV.sc (.bool (w)))]]) := by
  refine fnok_of_W hmix tabOK Try.func73 rfl rfl (Nat.le_of_ble_eq_true rfl) ?_
  conv => whnf
  refine ⟨false, [], ?_⟩
  conv => whnf
  exact ⟨rfl, rfl⟩
theorem c_offnil : FnOK Try.prog D 73 [.sc (.pointer none)] [] (fun r st => r = (AV.sc (.bool (true))) ∧ st = []) := by
  refine fnok_of_W hmix tabOK Try.func73 rfl rfl (Nat.le_of_ble_eq_true rfl) ?_
  conv => whnf
  refine ⟨false, [], ?_⟩
  conv => whnf
  exact ⟨rfl, rfl⟩
theorem c_done (b : List UInt8) (w : Bool) : FnOK Try.prog D 40 [.pt 0 []] [.st [(AV.sl .lf (by8 (b)) .ro), (AV.sc (.bool (w)))]] (fun r st => r = (AV.sc (.bool (!w && b.isEmpty))) ∧ st = [.st [(AV.sl .lf (by8 (b)) .ro), (AV.sc (.bool (w)))]]) := by
  refine fnok_of_W hmix tabOK Try.func40 rfl rfl (Nat.le_of_ble_eq_true rfl) ?_
  conv => whnf
  cases w with
  | true =>
    refine (c_off b true).mono fun r st e => ?_
    obtain ⟨rfl, rfl⟩ := e
    conv => whnf
    refine ⟨false, [], ?_⟩
    conv => whnf
    exact ⟨rfl, rfl⟩
  | false =>
    refine (c_off b false).mono fun r st e => ?_
    obtain ⟨rfl, rfl⟩ := e
    conv => whnf
    rw [len8]
    refine ⟨false, [], ?_⟩
    conv => whnf
    refine ⟨?_, rfl⟩
    congr 2
    cases b <;> simp <;> omega
/-- A number read: and how many bytes it takes; 0: none. -/
def rdn : List UInt8 → Nat → Nat → Nat × Nat
  | [], _, _ => (0, 0)
  | c :: l, i, a => if 10 ≤ i then (0, 0) else if (i = 9 ∧ 1 < c.toNat) ∨ (0 < i ∧ c.toNat = 0) then (0, 0) else
      if c.toNat < 128 then (a + c.toNat * 128 ^ i, i + 1) else rdn l (i + 1) (a + c.toNat % 128 * 128 ^ i)
theorem and127 (c : UInt8) : IntKind.u8.wrap ((BitVec.ofInt IntKind.u8.bits ((c.toNat : Nat) : Int) &&& BitVec.ofInt IntKind.u8.bits 127).toNat : Int) = ((c.toNat % 128 : Nat) : Int) := by
  have each : ∀ c, c < 256 → (BitVec.ofInt 8 ((c : Nat) : Int) &&& BitVec.ofInt 8 127).toNat = c % 128 := by decide +kernel
  show IntKind.u8.wrap ((BitVec.ofInt 8 ((c.toNat : Nat) : Int) &&& BitVec.ofInt 8 127).toNat : Int) = _
  rw [each _ c.toNat_lt, w8n (by omega)]
theorem or64 {a x i : Nat} (ha : a < 128 ^ i) (hx : x * 128 ^ i < 18446744073709551616) (hi : i < 10) : IntKind.u64.wrap ((BitVec.ofInt IntKind.u64.bits ((a : Nat) : Int) ||| BitVec.ofInt IntKind.u64.bits (IntKind.u64.wrap (((x : Nat) : Int) * 2 ^ min (Int.toNat ((7 * i : Nat) : Int)) IntKind.u64.bits))).toNat : Int) = ((a + x * 128 ^ i : Nat) : Int) := by
  have hp : (128 : Nat) ^ i = 2 ^ (7 * i) := by rw [show (128 : Nat) = 2 ^ 7 from rfl, ← Nat.pow_mul]
  have h9 : (128 : Nat) ^ i ≤ 128 ^ 9 := Nat.pow_le_pow_right (by decide) (by omega)
  have e1 : (2 : Int) ^ min (Int.toNat ((7 * i : Nat) : Int)) IntKind.u64.bits = ((128 ^ i : Nat) : Int) := by
    rw [Int.toNat_natCast, Nat.min_eq_left (by show 7 * i ≤ 64; omega), hp]
    simp
  rw [e1, ← Int.natCast_mul, wu64 (x := ((x * 128 ^ i : Nat) : Int)) (by omega) (by omega)]
  show IntKind.u64.wrap ((BitVec.ofInt 64 ((a : Nat) : Int) ||| BitVec.ofInt 64 ((x * 128 ^ i : Nat) : Int)).toNat : Int) = _
  have f1 : (BitVec.ofInt 64 ((a : Nat) : Int)).toNat = a := by
    have : a < 18446744073709551616 := Nat.lt_of_lt_of_le ha (Nat.le_trans h9 (by decide))
    simp; omega
  have f2 : (BitVec.ofInt 64 ((x * 128 ^ i : Nat) : Int)).toNat = x * 128 ^ i := by simp only [BitVec.toNat_ofInt]; omega
  have f3 : a ||| x * 128 ^ i = a + x * 128 ^ i := by
    have := Nat.shiftLeft_add_eq_or_of_lt (i := 7 * i) (b := a) (by rw [← hp]; exact ha) x
    rw [Nat.shiftLeft_eq, ← hp] at this
    rw [Nat.or_comm, ← this, Nat.add_comm]
  have f4 : a + x * 128 ^ i < 18446744073709551616 := by
    rw [← f3]
    exact Nat.or_lt_two_pow (n := 64) (Nat.lt_of_lt_of_le ha (Nat.le_trans h9 (by decide))) hx
  rw [BitVec.toNat_or, f1, f2, f3]
  exact wu64 (by omega) (by omega)
theorem rdn_fits (c : UInt8) (i : Nat) (hi : i < 10) (h : i = 9 → c.toNat ≤ 1) : c.toNat % 128 * 128 ^ i < 18446744073709551616 := by
  by_cases e : i = 9
  · have := h e
    subst e
    have : c.toNat % 128 ≤ 1 := by omega
    omega
  · have h8 : (128 : Nat) ^ i ≤ 128 ^ 8 := Nat.pow_le_pow_right (by decide) (by omega)
    have : c.toNat % 128 ≤ 127 := by omega
    have := Nat.mul_le_mul this h8
    omega
theorem rdn_lt {a x i : Nat} (h : a < 128 ^ i) (hx : x < 128) : a + x * 128 ^ i < 128 ^ (i + 1) := by
  have h2 : (x + 1) * 128 ^ i ≤ 128 * 128 ^ i := Nat.mul_le_mul_right _ (by omega)
  rw [Nat.add_mul, Nat.one_mul] at h2
  rw [Nat.pow_succ, Nat.mul_comm (128 ^ i) 128]
  omega
theorem c_number (b : List UInt8) (hb : b.length < 9223372036854775807) : FnOK Try.prog D 74 [(AV.sl .lf (by8 (b)) .ro)] [] (fun r st => r = .tup [(AV.sc (.int .u64 (((rdn b 0 0).1 : Int)))), (AV.sc (.int .i64 (((rdn b 0 0).2 : Int))))] ∧ st = []) := by
  refine fnok_of_W hmix tabOK Try.func74 rfl rfl (Nat.le_of_ble_eq_true rfl) ?_
  conv => whnf
  refine ⟨false, [0, 4, 5], fun τ => ∃ (i a : Nat), i ≤ b.length ∧ i ≤ 10 ∧ a < 128 ^ i ∧ rdn (b.drop i) i a = rdn b 0 0 ∧ τ = ⟨48, [(0, (AV.sl .lf (by8 (b)) .ro)), (4, (AV.sc (.int .u64 ((a : Int))))), (5, (AV.sc (.int .i64 ((i : Int)))))], ⟨[], [], 0⟩⟩, fun τ => 11 - (slotI τ 5).toNat, ?_, ?_⟩
  · conv => whnf
    exact ⟨0, 0, Nat.zero_le _, by omega, by decide, by rw [List.drop_zero], rfl⟩
  · rintro τ ⟨i, a, i1, i2, i3, i4, rfl⟩
    conv => whnf
    rw [len8]
    have stop : ∀ x : Nat × Nat, rdn b 0 0 = x → x = (0, 0) → (AV.tup [(AV.sc (.int .u64 (0))), (AV.sc (.int .i64 (0)))] : AV) = .tup [(AV.sc (.int .u64 (((rdn b 0 0).1 : Int)))), (AV.sc (.int .i64 (((rdn b 0 0).2 : Int))))] := by
      rintro x h1 rfl
      rw [h1]
      rfl
    refine Branch.of (fun h => ?_) (fun h => ?_) <;> rw [h] <;> conv => whnf
    · simp only [decide_eq_true_eq] at h
      have ib : i < b.length := by omega
      have hdr : b.drop i = b[i] :: b.drop (i + 1) := List.drop_eq_getElem_cons ib
      rw [hdr] at i4
      refine Branch.of (fun h2 => ?_) (fun h2 => ?_) <;> rw [h2] <;> conv => whnf
      · simp only [decide_eq_true_eq] at h2
        have hi10 : i < 10 := by omega
        refine ⟨by omega, _, at8 ib, ?_⟩
        generalize b[i] = c at i4
        rw [rdn, if_neg (by omega)] at i4
        conv => whnf
        refine Branch.of (fun h3 => ?_) (fun h3 => ?_) <;> rw [h3] <;> conv => whnf
        · simp only [beq_iff_eq] at h3
          have h9 : i = 9 := by omega
          refine Branch.of (fun h4 => ?_) (fun h4 => ?_) <;> rw [h4] <;> conv => whnf
          · simp only [gt_iff_lt, decide_eq_true_eq] at h4
            refine ⟨false, [], ?_⟩
            conv => whnf
            rw [if_pos (by omega)] at i4
            exact ⟨stop _ i4.symm rfl, rfl⟩
          · simp only [gt_iff_lt, decide_eq_false_iff_not] at h4
            rw [show decide ((i : Int) > 0) = true from decide_eq_true (by omega)]
            conv => whnf
            refine Branch.of (fun h5 => ?_) (fun h5 => ?_) <;> rw [h5] <;> conv => whnf
            · simp only [beq_iff_eq] at h5
              refine ⟨false, [], ?_⟩
              conv => whnf
              rw [if_pos (by omega)] at i4
              exact ⟨stop _ i4.symm rfl, rfl⟩
            · simp only [beq_eq_false_iff_ne, ne_eq] at h5
              have hbad : ¬ ((i = 9 ∧ 1 < c.toNat) ∨ (0 < i ∧ c.toNat = 0)) := by omega
              rw [if_neg hbad] at i4
              rw [w64 (x := 7 * (i : Int)) (by omega) (by omega), show (7 * (i : Int)) = ((7 * i : Nat) : Int) by omega]
              refine ⟨by omega, ?_⟩
              conv => whnf
              have hx : c.toNat % 128 * 128 ^ i < 18446744073709551616 := rdn_fits c i hi10 (by omega)
              rw [and127 c, wu64 (x := ((c.toNat % 128 : Nat) : Int)) (by omega) (by omega), or64 (a := a) (x := c.toNat % 128) (i := i) i3 hx hi10]
              refine Branch.of (fun h8 => ?_) (fun h8 => ?_) <;> rw [h8] <;> conv => whnf
              · simp only [decide_eq_true_eq] at h8
                have hc : c.toNat < 128 := by omega
                rw [w64 (x := (i : Int) + 1) (by omega) (by omega)]
                refine ⟨false, [], ?_⟩
                conv => whnf
                refine ⟨?_, rfl⟩
                rw [if_pos hc] at i4
                rw [← i4, Nat.mod_eq_of_lt hc]
                rfl
              · simp only [decide_eq_false_iff_not] at h8
                rw [if_neg (by omega)] at i4
                rw [w64 (x := (i : Int) + 1) (by omega) (by omega)]
                refine ⟨⟨i + 1, a + c.toNat % 128 * 128 ^ i, by omega, by omega, rdn_lt i3 (by omega), i4, rfl⟩, ?_⟩
                show 11 - ((i : Int) + 1).toNat < 11 - (i : Int).toNat
                omega
        · simp only [beq_eq_false_iff_ne, ne_eq] at h3
          refine Branch.of (fun h5 => ?_) (fun h5 => ?_) <;> rw [h5] <;> conv => whnf
          · simp only [gt_iff_lt, decide_eq_true_eq] at h5
            refine Branch.of (fun h6 => ?_) (fun h6 => ?_) <;> rw [h6] <;> conv => whnf
            · simp only [beq_iff_eq] at h6
              refine ⟨false, [], ?_⟩
              conv => whnf
              rw [if_pos (by omega)] at i4
              exact ⟨stop _ i4.symm rfl, rfl⟩
            · simp only [beq_eq_false_iff_ne, ne_eq] at h6
              have hbad : ¬ ((i = 9 ∧ 1 < c.toNat) ∨ (0 < i ∧ c.toNat = 0)) := by omega
              rw [if_neg hbad] at i4
              rw [w64 (x := 7 * (i : Int)) (by omega) (by omega), show (7 * (i : Int)) = ((7 * i : Nat) : Int) by omega]
              refine ⟨by omega, ?_⟩
              conv => whnf
              have hx : c.toNat % 128 * 128 ^ i < 18446744073709551616 := rdn_fits c i hi10 (by omega)
              rw [and127 c, wu64 (x := ((c.toNat % 128 : Nat) : Int)) (by omega) (by omega), or64 (a := a) (x := c.toNat % 128) (i := i) i3 hx hi10]
              refine Branch.of (fun h8 => ?_) (fun h8 => ?_) <;> rw [h8] <;> conv => whnf
              · simp only [decide_eq_true_eq] at h8
                have hc : c.toNat < 128 := by omega
                rw [w64 (x := (i : Int) + 1) (by omega) (by omega)]
                refine ⟨false, [], ?_⟩
                conv => whnf
                refine ⟨?_, rfl⟩
                rw [if_pos hc] at i4
                rw [← i4, Nat.mod_eq_of_lt hc]
                rfl
              · simp only [decide_eq_false_iff_not] at h8
                rw [if_neg (by omega)] at i4
                rw [w64 (x := (i : Int) + 1) (by omega) (by omega)]
                refine ⟨⟨i + 1, a + c.toNat % 128 * 128 ^ i, by omega, by omega, rdn_lt i3 (by omega), i4, rfl⟩, ?_⟩
                show 11 - ((i : Int) + 1).toNat < 11 - (i : Int).toNat
                omega
          · simp only [gt_iff_lt, decide_eq_false_iff_not] at h5
            have hbad : ¬ ((i = 9 ∧ 1 < c.toNat) ∨ (0 < i ∧ c.toNat = 0)) := by omega
            rw [if_neg hbad] at i4
            rw [w64 (x := 7 * (i : Int)) (by omega) (by omega), show (7 * (i : Int)) = ((7 * i : Nat) : Int) by omega]
            refine ⟨by omega, ?_⟩
            conv => whnf
            have hx : c.toNat % 128 * 128 ^ i < 18446744073709551616 := rdn_fits c i hi10 (by omega)
            rw [and127 c, wu64 (x := ((c.toNat % 128 : Nat) : Int)) (by omega) (by omega), or64 (a := a) (x := c.toNat % 128) (i := i) i3 hx hi10]
            refine Branch.of (fun h8 => ?_) (fun h8 => ?_) <;> rw [h8] <;> conv => whnf
            · simp only [decide_eq_true_eq] at h8
              have hc : c.toNat < 128 := by omega
              rw [w64 (x := (i : Int) + 1) (by omega) (by omega)]
              refine ⟨false, [], ?_⟩
              conv => whnf
              refine ⟨?_, rfl⟩
              rw [if_pos hc] at i4
              rw [← i4, Nat.mod_eq_of_lt hc]
              rfl
            · simp only [decide_eq_false_iff_not] at h8
              rw [if_neg (by omega)] at i4
              rw [w64 (x := (i : Int) + 1) (by omega) (by omega)]
              refine ⟨⟨i + 1, a + c.toNat % 128 * 128 ^ i, by omega, by omega, rdn_lt i3 (by omega), i4, rfl⟩, ?_⟩
              show 11 - ((i : Int) + 1).toNat < 11 - (i : Int).toNat
              omega
      · simp only [decide_eq_false_iff_not] at h2
        refine ⟨false, [], ?_⟩
        conv => whnf
        rw [rdn, if_pos (by omega)] at i4
        exact ⟨stop _ i4.symm rfl, rfl⟩
    · simp only [decide_eq_false_iff_not] at h
      refine ⟨false, [], ?_⟩
      conv => whnf
      rw [List.drop_of_length_le (by omega), rdn] at i4
      exact ⟨stop _ i4.symm rfl, rfl⟩
end Go.WL.T1
namespace Go.WL.T1
open Go.WL Go.Proofs
set_option maxRecDepth 20000
set_option maxHeartbeats 4000000
theorem rdn_size : ∀ (l : List UInt8) (i a : Nat), (rdn l i a).2 = 0 ∨ (i + 1 ≤ (rdn l i a).2 ∧ (rdn l i a).2 ≤ i + l.length)
  | [], i, a => .inl rfl
  | c :: l, i, a => by
    rw [rdn]
    split
    · exact .inl rfl
    · split
      · exact .inl rfl
      · split
        · right; simp
        · rcases rdn_size l (i + 1) (a + c.toNat % 128 * 128 ^ i) with h | h
          · exact .inl h
          · right; simp only [List.length_cons]; omega
theorem by8_cut (k : Nat) (b : List UInt8) : ((by8 b).drop k).take ((by8 b).length - k) = by8 (b.drop k) := by
  have e : (by8 b).drop k = by8 (b.drop k) := by simp [by8]
  rw [e, by8_take, List.take_of_length_le]
  rw [len8, List.length_drop]
  exact Nat.le_refl _
/-- What reading a number makes of a reader. -/
def rnum (b : List UInt8) (w : Bool) : Nat × List UInt8 × Bool := if w then (0, b, true) else if (rdn b 0 0).2 = 0 then (0, b, true) else ((rdn b 0 0).1, b.drop (rdn b 0 0).2, false)
theorem c_rnum (b : List UInt8) (w : Bool) (hb : b.length < 9223372036854775807) : FnOK Try.prog D 37 [.pt 0 []] [.st [(AV.sl .lf (by8 (b)) .ro), (AV.sc (.bool (w)))]] (fun r st => r = (AV.sc (.int .u64 (((rnum b w).1 : Int)))) ∧ st = [.st [(AV.sl .lf (by8 ((rnum b w).2.1)) .ro), (AV.sc (.bool ((rnum b w).2.2)))]]) := by
  cases w with
  | true =>
    refine fnok_of_W hmix tabOK Try.func37 rfl rfl (Nat.le_of_ble_eq_true rfl) ?_
    conv => whnf
    refine (c_off b true).mono fun r st e => ?_
    obtain ⟨rfl, rfl⟩ := e
    conv => whnf
    refine ⟨false, [], ?_⟩
    conv => whnf
    exact ⟨rfl, rfl⟩
  | false =>
    refine fnok_of_W hmix tabOK Try.func37 rfl rfl (Nat.le_of_ble_eq_true rfl) ?_
    conv => whnf
    refine (c_off b false).mono fun r st e => ?_
    obtain ⟨rfl, rfl⟩ := e
    conv => whnf
    refine (c_number b hb).mono fun r st e => ?_
    obtain ⟨rfl, rfl⟩ := e
    have hs := rdn_size b 0 0
    have hr : rnum b false = if (rdn b 0 0).2 = 0 then (0, b, true) else ((rdn b 0 0).1, b.drop (rdn b 0 0).2, false) := rfl
    rw [hr]
    generalize (rdn b 0 0).2 = s at hs
    generalize (rdn b 0 0).1 = n
    conv => whnf
    refine Branch.of (fun h => ?_) (fun h => ?_) <;> rw [h] <;> conv => whnf
    · simp only [beq_iff_eq] at h
      have h0 : s = 0 := by omega
      rw [if_pos h0]
      refine ⟨false, [], ?_⟩
      conv => whnf
      exact ⟨rfl, rfl⟩
    · simp only [beq_eq_false_iff_ne, ne_eq] at h
      have h0 : ¬ s = 0 := by omega
      rw [if_neg h0]
      refine ⟨by omega, ?_⟩
      conv => whnf
      refine ⟨by rw [len8]; omega, by rw [len8]; omega, ?_⟩
      conv => whnf
      rw [Int.toNat_natCast, by8_cut s b]
      refine ⟨false, [], ?_⟩
      conv => whnf
      exact ⟨rfl, rfl⟩
theorem c_oawake : FnOK Try.prog D 26 [] [] (fun r st => r = (AV.sc (.bool (true))) ∧ st = []) := by
  have h300 : num 300 = [172, 2] := by rw [num_high (by decide), num_low (by decide)]; rfl
  refine fnok_of_W hmix tabOK Try.func26 rfl rfl (Nat.le_of_ble_eq_true rfl) ?_
  conv => whnf
  have c1 := c_num [] 300 (by decide) (by decide) (m := .ex) (.inl rfl)
  rw [h300] at c1
  refine c1.mono fun r st e => ?_
  obtain ⟨rfl, rfl⟩ := e
  conv => whnf
  refine (c_read0 [172, 2] (by decide)).mono fun r st e => ?_
  obtain ⟨rfl, rfl⟩ := e
  conv => whnf
  refine ⟨by omega, (AV.sc (.int .u8 (172))), rfl, ?_⟩
  conv => whnf
  refine ⟨by omega, (AV.sc (.int .u8 (2))), rfl, ?_⟩
  conv => whnf
  have c2 := c_rnum [172, 2] false (by decide)
  rw [show rnum [172, 2] false = (300, [], false) by decide] at c2
  refine c2.mono fun r st e => ?_
  obtain ⟨rfl, rfl⟩ := e
  conv => whnf
  refine (c_done [] false).mono fun r st e => ?_
  obtain ⟨rfl, rfl⟩ := e
  conv => whnf
  refine ⟨false, [], ?_⟩
  conv => whnf
  exact ⟨rfl, rfl⟩
theorem c_olaw (b t h : List UInt8) (n : Nat) (hn : n < 18446744073709551616) (hh : h.length = 32) : FnOK Try.prog D 6 [(AV.sl .lf (by8 (b)) .ro), .st [(AV.sc (.int .u64 ((n : Int)))), (AV.sl .lf (by8 (t)) .ro), .ar 32 .lf (by8 h)]] [] (fun r _ => r = (AV.sc (.bool (true)))) := by
  refine fnok_of_W hmix tabOK Try.func6 rfl rfl (Nat.le_of_ble_eq_true rfl) ?_
  conv => whnf
  rw [len8]
  refine Branch.of (fun h1 => ?_) (fun h1 => ?_) <;> rw [h1] <;> conv => whnf
  · refine (c_oawake).mono fun r st e => ?_
    obtain ⟨rfl, rfl⟩ := e
    conv => whnf
    refine ⟨false, [], ?_⟩
    conv => whnf
  simp only [gt_iff_lt, decide_eq_false_iff_not] at h1
  rw [len8]
  refine Branch.of (fun h2 => ?_) (fun h2 => ?_) <;> rw [h2] <;> conv => whnf
  · refine (c_oawake).mono fun r st e => ?_
    obtain ⟨rfl, rfl⟩ := e
    conv => whnf
    refine ⟨false, [], ?_⟩
    conv => whnf
  simp only [gt_iff_lt, decide_eq_false_iff_not] at h2
  refine ⟨tab_6_3, by decide +kernel, ?_⟩
  conv => whnf
  refine ⟨_, _, c_num b n (by omega) hn (.inr rfl), ?_⟩
  conv => whnf
  have hten := num_ten hn
  refine ⟨_, _, c_text0 (b ++ num n) t (by simp; omega) (by omega), ?_⟩
  conv => whnf
  rw [List.take_of_length_le (show t.length ≤ 65536 by omega)]
  have hten2 := num_ten (n := t.length) (by omega)
  refine ⟨_, _, c_hash0 (b ++ num n ++ (num t.length ++ t)) h (by simp; omega) hh, ?_⟩
  conv => whnf
  refine ⟨tab_6_4, by decide +kernel, ?_⟩
  conv => whnf
  rw [show List.replicate 0 (AV.sc (.int .u8 0)) ++ by8 b = by8 b from List.nil_append _]
  refine ⟨by rw [len8]; simp; omega, ?_⟩
  conv => whnf
  refine ⟨_, _, c_bytes n t h hn (by omega) hh, ?_⟩
  conv => whnf
  refine ⟨by rw [len8, len8]; simp; omega, ?_⟩
  conv => whnf
  rw [by8_app]
  have c1 := c_same (b ++ num n ++ (num t.length ++ t) ++ h) (b ++ (num n ++ (num t.length ++ t) ++ h)) (by simp; omega) (m1 := .ro) (m2 := .ro) (.inr rfl) (.inr rfl)
  rw [show (b ++ num n ++ (num t.length ++ t) ++ h == b ++ (num n ++ (num t.length ++ t) ++ h)) = true by simp] at c1
  refine ⟨_, _, c1, ?_⟩
  conv => whnf
  refine ⟨_, _, c_oawake, ?_⟩
  conv => whnf
  refine ⟨false, [], ?_⟩
  conv => whnf
end Go.WL.T1
namespace Go.WL.T1
open Go.WL Go.Proofs
set_option maxRecDepth 20000
set_option maxHeartbeats 4000000
/-- What reading a number up to one makes of a reader. -/
def rupto (b : List UInt8) (w : Bool) (top : Int) : Nat × List UInt8 × Bool :=
  if w = true ∨ (rnum b false).2.2 = true ∨ top < 0 ∨ ((rnum b false).1 : Int) > top then (0, b, true) else rnum b false
def rtext (b : List UInt8) (w : Bool) : List UInt8 × List UInt8 × Bool :=
  if w = true ∨ (rupto b false 65536).2.2 = true ∨ (rupto b false 65536).1 > (rupto b false 65536).2.1.length then ([], b, true)
  else ((rupto b false 65536).2.1.take (rupto b false 65536).1, (rupto b false 65536).2.1.drop (rupto b false 65536).1, false)
def rhash (b : List UInt8) (w : Bool) : List UInt8 × List UInt8 × Bool :=
  if w = true ∨ b.length < 32 then (List.replicate 32 0, b, true) else (b.take 32, b.drop 32, false)
theorem rdn_max : ∀ (l : List UInt8) (i a : Nat), i ≤ 10 → a < 128 ^ i → (rdn l i a).1 < 18446744073709551616
  | [], i, a, _, _ => by simp [rdn]
  | c :: l, i, a, hi, ha => by
    rw [rdn]
    split
    · simp
    · rename_i h1
      split
      · simp
      · rename_i h2
        have hi10 : i < 10 := by omega
        have hp : (128 : Nat) ^ i ≤ 128 ^ 9 := Nat.pow_le_pow_right (by decide) (by omega)
        have hx := rdn_fits c i hi10 (by omega)
        split
        · rename_i h3
          rw [Nat.mod_eq_of_lt h3] at hx
          by_cases e : i = 9
          · subst e
            have : c.toNat ≤ 1 := by omega
            have : c.toNat * 128 ^ 9 ≤ 1 * 128 ^ 9 := Nat.mul_le_mul_right _ this
            show a + c.toNat * 128 ^ 9 < _
            omega
          · have h8 : (128 : Nat) ^ (i + 1) ≤ 128 ^ 9 := Nat.pow_le_pow_right (by decide) (by omega)
            have := rdn_lt ha h3
            show a + c.toNat * 128 ^ i < _
            omega
        · exact rdn_max l (i + 1) _ (by omega) (rdn_lt ha (by omega))
theorem rnum_max (b : List UInt8) (w : Bool) : (rnum b w).1 < 18446744073709551616 := by
  unfold rnum
  split
  · simp
  · split
    · simp
    · exact rdn_max b 0 0 (by omega) (by decide)
theorem rnum_len (b : List UInt8) (w : Bool) : (rnum b w).2.1.length ≤ b.length := by
  unfold rnum
  split
  · simp
  · split
    · simp
    · simp
theorem c_upto (b : List UInt8) (w : Bool) (top : Int) (ht : -9223372036854775808 ≤ top ∧ top < 9223372036854775808) (hb : b.length < 9223372036854775807) : FnOK Try.prog D 45 [.pt 0 [], (AV.sc (.int .i64 (top)))] [.st [(AV.sl .lf (by8 (b)) .ro), (AV.sc (.bool (w)))]] (fun r st => r = (AV.sc (.int .i64 (((rupto b w top).1 : Int)))) ∧ st = [.st [(AV.sl .lf (by8 ((rupto b w top).2.1)) .ro), (AV.sc (.bool ((rupto b w top).2.2)))]]) := by
  cases w with
  | true =>
    rw [show rupto b true top = (0, b, true) from if_pos (.inl rfl)]
    refine fnok_of_W hmix tabOK Try.func45 rfl rfl (Nat.le_of_ble_eq_true rfl) ?_
    conv => whnf
    refine (c_off b true).mono fun r st e => ?_
    obtain ⟨rfl, rfl⟩ := e
    conv => whnf
    refine ⟨false, [], ?_⟩
    conv => whnf
    exact ⟨rfl, rfl⟩
  | false =>
    have hm := rnum_max b false
    have hr : rupto b false top = if (rnum b false).2.2 = true ∨ top < 0 ∨ ((rnum b false).1 : Int) > top then (0, b, true) else rnum b false := by
      unfold rupto
      simp
    have c1 := c_rnum b false hb
    rw [hr]
    generalize rnum b false = x at hm c1
    obtain ⟨n, b', w'⟩ := x
    simp only at hm c1 ⊢
    refine fnok_of_W hmix tabOK Try.func45 rfl rfl (Nat.le_of_ble_eq_true rfl) ?_
    conv => whnf
    refine (c_off b false).mono fun r st e => ?_
    obtain ⟨rfl, rfl⟩ := e
    conv => whnf
    refine c1.mono fun r st e => ?_
    obtain ⟨rfl, rfl⟩ := e
    conv => whnf
    cases w' with
    | true =>
      rw [if_pos (.inl rfl)]
      conv => whnf
      refine ⟨false, [], ?_⟩
      conv => whnf
      exact ⟨rfl, rfl⟩
    | false =>
      conv => whnf
      refine Branch.of (fun h => ?_) (fun h => ?_) <;> rw [h] <;> conv => whnf
      · simp only [decide_eq_true_eq] at h
        rw [if_pos (.inr (.inl h))]
        refine ⟨false, [], ?_⟩
        conv => whnf
        exact ⟨rfl, rfl⟩
      simp only [decide_eq_false_iff_not] at h
      rw [wu64 (x := top) (by omega) (by omega)]
      refine Branch.of (fun h2 => ?_) (fun h2 => ?_) <;> rw [h2] <;> conv => whnf
      · simp only [gt_iff_lt, decide_eq_true_eq] at h2
        rw [if_pos (.inr (.inr h2))]
        refine ⟨false, [], ?_⟩
        conv => whnf
        exact ⟨rfl, rfl⟩
      simp only [gt_iff_lt, decide_eq_false_iff_not] at h2
      rw [if_neg (by simp; omega), w64 (x := ((n : Nat) : Int)) (by omega) (by omega)]
      refine ⟨false, [], ?_⟩
      conv => whnf
      exact ⟨rfl, rfl⟩
theorem c_left (b : List UInt8) (w : Bool) : FnOK Try.prog D 46 [.pt 0 []] [.st [(AV.sl .lf (by8 (b)) .ro), (AV.sc (.bool (w)))]] (fun r st => r = (AV.sc (.int .i64 ((b.length : Int)))) ∧ st = [.st [(AV.sl .lf (by8 (b)) .ro), (AV.sc (.bool (w)))]]) := by
  refine fnok_of_W hmix tabOK Try.func46 rfl rfl (Nat.le_of_ble_eq_true rfl) ?_
  conv => whnf
  rw [len8]
  refine ⟨false, [], ?_⟩
  conv => whnf
  exact ⟨rfl, rfl⟩
theorem c_wrong (b : List UInt8) (w : Bool) : FnOK Try.prog D 47 [.pt 0 []] [.st [(AV.sl .lf (by8 (b)) .ro), (AV.sc (.bool (w)))]] (fun r st => r = (AV.sc (.bool (w))) ∧ st = [.st [(AV.sl .lf (by8 (b)) .ro), (AV.sc (.bool (w)))]]) := by
  refine fnok_of_W hmix tabOK Try.func47 rfl rfl (Nat.le_of_ble_eq_true rfl) ?_
  conv => whnf
  refine (c_off b w).mono fun r st e => ?_
  obtain ⟨rfl, rfl⟩ := e
  conv => whnf
  refine ⟨false, [], ?_⟩
  conv => whnf
  exact ⟨rfl, rfl⟩
end Go.WL.T1
namespace Go.WL.T1
open Go.WL Go.Proofs
set_option maxRecDepth 20000
set_option maxHeartbeats 4000000
theorem rupto_len (b : List UInt8) (w : Bool) (top : Int) : (rupto b w top).2.1.length ≤ b.length := by
  unfold rupto
  split
  · simp
  · exact rnum_len b false
theorem rupto_le (b : List UInt8) (w : Bool) (top : Int) (h : 0 ≤ top) : ((rupto b w top).1 : Int) ≤ top := by
  unfold rupto
  split
  · simpa using h
  · rename_i c
    omega
theorem c_rtext (b : List UInt8) (w : Bool) (hb : b.length < 4000000000) : FnOK Try.prog D 38 [.pt 0 []] [.st [(AV.sl .lf (by8 (b)) .ro), (AV.sc (.bool (w)))]] (fun r st => r = (AV.sl .lf (by8 ((rtext b w).1)) (.own 0)) ∧ st = [.st [(AV.sl .lf (by8 ((rtext b w).2.1)) .ro), (AV.sc (.bool ((rtext b w).2.2)))]]) := by
  cases w with
  | true =>
    rw [show rtext b true = ([], b, true) from if_pos (.inl rfl)]
    refine fnok_of_W hmix tabOK Try.func38 rfl rfl (Nat.le_of_ble_eq_true rfl) ?_
    conv => whnf
    refine (c_off b true).mono fun r st e => ?_
    obtain ⟨rfl, rfl⟩ := e
    conv => whnf
    refine ⟨true, [], ?_⟩
    conv => whnf
    exact ⟨rfl, rfl⟩
  | false =>
    have hm := rupto_le b false 65536 (by decide)
    have hl := rupto_len b false 65536
    have c1 := c_upto b false 65536 (by decide) (by omega)
    have hr : rtext b false = if (rupto b false 65536).2.2 = true ∨ (rupto b false 65536).1 > (rupto b false 65536).2.1.length then ([], b, true)
      else ((rupto b false 65536).2.1.take (rupto b false 65536).1, (rupto b false 65536).2.1.drop (rupto b false 65536).1, false) := by
      unfold rtext
      simp
    rw [hr]
    generalize rupto b false 65536 = x at hm hl c1
    obtain ⟨n, b', w'⟩ := x
    simp only at hm hl c1 ⊢
    refine fnok_of_W hmix tabOK Try.func38 rfl rfl (Nat.le_of_ble_eq_true rfl) ?_
    conv => whnf
    refine (c_off b false).mono fun r st e => ?_
    obtain ⟨rfl, rfl⟩ := e
    conv => whnf
    refine c1.mono fun r st e => ?_
    obtain ⟨rfl, rfl⟩ := e
    conv => whnf
    cases w' with
    | true =>
      rw [if_pos (.inl rfl)]
      conv => whnf
      refine ⟨true, [], ?_⟩
      conv => whnf
      exact ⟨rfl, rfl⟩
    | false =>
      conv => whnf
      rw [len8]
      refine Branch.of (fun h => ?_) (fun h => ?_) <;> rw [h] <;> conv => whnf
      · simp only [gt_iff_lt, decide_eq_true_eq] at h
        rw [if_pos (.inr (by omega))]
        refine ⟨true, [], ?_⟩
        conv => whnf
        exact ⟨rfl, rfl⟩
      simp only [gt_iff_lt, decide_eq_false_iff_not] at h
      rw [if_neg (by simp; omega)]
      refine ⟨by omega, ?_⟩
      conv => whnf
      refine ⟨by omega, by rw [len8]; omega, ?_⟩
      conv => whnf
      rw [Int.toNat_natCast, Nat.sub_zero, List.drop_zero, by8_take]
      refine (c_clone0 (b'.take n) (by simp; omega)).mono fun r st e => ?_
      obtain ⟨rfl, rfl⟩ := e
      conv => whnf
      refine ⟨by omega, ?_⟩
      conv => whnf
      refine ⟨by rw [len8]; omega, by rw [len8]; omega, ?_⟩
      conv => whnf
      rw [Int.toNat_natCast, by8_cut n b']
      refine ⟨false, [], ?_⟩
      conv => whnf
      exact ⟨rfl, rfl⟩
theorem c_rhash (b : List UInt8) (w : Bool) (hb : b.length < 4000000000) : FnOK Try.prog D 39 [.pt 0 []] [.st [(AV.sl .lf (by8 (b)) .ro), (AV.sc (.bool (w)))]] (fun r st => r = .ar 32 .lf (by8 (rhash b w).1) ∧ st = [.st [(AV.sl .lf (by8 ((rhash b w).2.1)) .ro), (AV.sc (.bool ((rhash b w).2.2)))]]) := by
  cases w with
  | true =>
    rw [show rhash b true = (List.replicate 32 0, b, true) from if_pos (.inl rfl)]
    refine fnok_of_W hmix tabOK Try.func39 rfl rfl (Nat.le_of_ble_eq_true rfl) ?_
    conv => whnf
    refine (c_off b true).mono fun r st e => ?_
    obtain ⟨rfl, rfl⟩ := e
    conv => whnf
    refine ⟨false, [], ?_⟩
    conv => whnf
    exact ⟨rfl, rfl⟩
  | false =>
    have hr : rhash b false = if b.length < 32 then (List.replicate 32 0, b, true) else (b.take 32, b.drop 32, false) := by
      unfold rhash
      simp
    rw [hr]
    refine fnok_of_W hmix tabOK Try.func39 rfl rfl (Nat.le_of_ble_eq_true rfl) ?_
    conv => whnf
    refine (c_off b false).mono fun r st e => ?_
    obtain ⟨rfl, rfl⟩ := e
    conv => whnf
    rw [len8]
    refine Branch.of (fun h => ?_) (fun h => ?_) <;> rw [h] <;> conv => whnf
    · simp only [decide_eq_true_eq] at h
      rw [if_pos (by omega)]
      refine ⟨false, [], ?_⟩
      conv => whnf
      exact ⟨rfl, rfl⟩
    simp only [decide_eq_false_iff_not] at h
    rw [if_neg (by omega)]
    refine ⟨tab_39_7, by decide +kernel, ?_⟩
    conv => whnf
    refine ⟨by omega, by omega, ?_⟩
    conv => whnf
    refine ⟨by omega, ?_⟩
    conv => whnf
    refine ⟨by rw [len8]; omega, by rw [len8]; omega, ?_⟩
    conv => whnf
    refine ⟨false, [], ?_⟩
    conv => whnf
    refine ⟨?_, ?_⟩
    · congr 1
      show _ = by8 (b.take 32)
      rw [List.take_zero, List.nil_append, by8_take, len8, Nat.min_eq_right (by omega), List.drop_of_length_le (by simp), List.append_nil]
    · rw [show Int.toNat 32 = 32 from rfl, by8_cut 32 b]
end Go.WL.T1
namespace Go.WL.T1
open Go.WL Go.Proofs
set_option maxRecDepth 20000
set_option maxHeartbeats 4000000
theorem rdn_num (rest : List UInt8) (m i a : Nat) (h : m * 128 ^ i < 18446744073709551616) (hi : i < 10) (h0 : i = 0 ∨ 0 < m) : rdn (num m ++ rest) i a = (a + m * 128 ^ i, i + (num m).length) := by
  induction m using Nat.strongRecOn generalizing i a with
  | ind m ih =>
  by_cases c : m < 128
  · rw [num_low c, List.cons_append, rdn, if_neg (by omega)]
    have e : (UInt8.ofNat m).toNat = m := by simp; omega
    rw [e, if_neg, if_pos c]
    · rfl
    · intro k
      rcases k with ⟨k1, k2⟩ | ⟨k1, k2⟩
      · subst k1
        have : 2 * 128 ^ 9 ≤ m * 128 ^ 9 := Nat.mul_le_mul_right _ k2
        omega
      · omega
  · have e : (UInt8.ofNat (128 + m % 128)).toNat = 128 + m % 128 := by simp; omega
    have hi8 : i < 9 := by
      refine Nat.lt_of_not_le fun k => ?_
      have e9 : i = 9 := by omega
      subst e9
      have : 128 * 128 ^ 9 ≤ m * 128 ^ 9 := Nat.mul_le_mul_right _ (by omega)
      omega
    have hm : m / 128 * 128 ^ (i + 1) + m % 128 * 128 ^ i = m * 128 ^ i := by
      rw [Nat.pow_succ, ← Nat.mul_assoc, Nat.mul_right_comm, ← Nat.add_mul]
      congr 1
      omega
    rw [num_high c, List.cons_append, rdn, if_neg (by omega), e, if_neg (by omega), if_neg (by omega), show (128 + m % 128) % 128 = m % 128 by omega, ih (m / 128) (by omega) (i + 1) _ (by omega) (by omega) (.inr (by omega))]
    rw [List.length_cons]
    congr 1 <;> omega
theorem num_pos (n : Nat) : 0 < (num n).length := by
  by_cases c : n < 128
  · rw [num_low c]; simp
  · rw [num_high c]; simp
theorem rnum_num (n : Nat) (rest : List UInt8) (hn : n < 18446744073709551616) : rnum (num n ++ rest) false = (n, rest, false) := by
  have h := rdn_num rest n 0 0 (by omega) (by omega) (.inl rfl)
  have hp := num_pos n
  unfold rnum
  rw [h, if_neg (by simp)]
  simp only [Nat.zero_add, Nat.pow_zero, Nat.mul_one]
  rw [if_neg (by omega), List.drop_append_of_le_length (Nat.le_refl _), List.drop_length, List.nil_append]
theorem rtext_text (t rest : List UInt8) (ht : t.length ≤ 65536) : rtext (num t.length ++ (t ++ rest)) false = (t, rest, false) := by
  have h := rnum_num t.length (t ++ rest) (by omega)
  have hu : rupto (num t.length ++ (t ++ rest)) false 65536 = (t.length, t ++ rest, false) := by
    unfold rupto
    rw [h, if_neg (by simp; omega)]
  unfold rtext
  rw [hu, if_neg (by simp)]
  simp
theorem rhash_hash (h rest : List UInt8) (hh : h.length = 32) : rhash (h ++ rest) false = (h, rest, false) := by
  unfold rhash
  rw [if_neg (by simp; omega), ← hh]
  simp
/-- Of one that is put: its bytes, and how it lies. -/
def enc (p : Nat × List UInt8 × List UInt8) : List UInt8 := num p.1 ++ (num p.2.1.length ++ (p.2.1 ++ p.2.2))
def encs (l : List (Nat × List UInt8 × List UInt8)) : List UInt8 := l.flatMap enc
def okP (p : Nat × List UInt8 × List UInt8) : Prop := p.1 < 18446744073709551616 ∧ p.2.2.length = 32
theorem enc_len {p : Nat × List UInt8 × List UInt8} (h : okP p) (ht : p.2.1.length ≤ 300) : (enc p).length ≤ 352 := by
  have h1 := num_ten h.1
  have h2 := num_ten (n := p.2.1.length) (by omega)
  have h3 := h.2
  unfold enc
  simp
  omega
theorem encs_len : ∀ l : List (Nat × List UInt8 × List UInt8), (∀ p ∈ l, okP p) → (∀ p ∈ l, p.2.1.length ≤ 300) → (encs l).length ≤ 352 * l.length
  | [], _, _ => by simp [encs]
  | p :: l, h1, h2 => by
    have := encs_len l (fun q hq => h1 q (List.mem_cons_of_mem _ hq)) (fun q hq => h2 q (List.mem_cons_of_mem _ hq))
    have := enc_len (h1 p (by simp)) (h2 p (by simp))
    simp only [encs, List.flatMap_cons, List.length_append, List.length_cons] at *
    omega
theorem c_backlaw (l : List (Nat × List UInt8 × List UInt8)) (hl : ∀ p ∈ l, okP p) : FnOK Try.prog D 9 [.sl (.nd [.lf, .lf, .ar 32 .lf]) (l.map fun p => AV.st [(AV.sc (.int .u64 ((p.1 : Int)))), (AV.sl .lf (by8 (p.2.1)) .ro), .ar 32 .lf (by8 p.2.2)]) .ro] [] (fun r _ => r = (AV.sc (.bool (true)))) := by
  refine fnok_of_W hmix tabOK Try.func9 rfl rfl (Nat.le_of_ble_eq_true rfl) ?_
  conv => whnf
  rw [List.length_map]
  refine Branch.of (fun h => ?_) (fun h => ?_) <;> rw [h] <;> conv => whnf
  · refine (c_oawake).mono fun r st e => ?_
    obtain ⟨rfl, rfl⟩ := e
    conv => whnf
    refine ⟨false, [], ?_⟩
    conv => whnf
  simp only [gt_iff_lt, decide_eq_false_iff_not] at h
  generalize hL : (l.map fun p => AV.st [(AV.sc (.int .u64 ((p.1 : Int)))), (AV.sl .lf (by8 (p.2.1)) .ro), .ar 32 .lf (by8 p.2.2)]) = L
  have hLl : L.length = l.length := by rw [← hL]; simp
  have hat : ∀ (i : Nat) (hi : i < l.length), L[((i : Nat) : Int).toNat]? = some (AV.st [(AV.sc (.int .u64 ((l[i].1 : Int)))), (AV.sl .lf (by8 (l[i].2.1)) .ro), .ar 32 .lf (by8 l[i].2.2)]) := by
    intro i hi
    rw [← hL]
    simp [hi]
  refine ⟨true, [0, 2, 3, 4], fun τ => ∃ i : Nat, i ≤ l.length ∧ (∀ p ∈ l.take i, p.2.1.length ≤ 300) ∧ τ = ⟨87, [(0, .sl (.nd [.lf, .lf, .ar 32 .lf]) L .ro), (2, (AV.sc (.bool (false)))), (3, (AV.sl .lf (by8 (encs (l.take i))) (.own 0))), (4, (AV.sc (.int .i64 ((i : Int)))))], ⟨[], [0], 1⟩⟩, fun τ => l.length - (slotI τ 4).toNat, ?_, ?_⟩
  · conv => whnf
    exact ⟨0, Nat.zero_le _, by simp, rfl⟩
  · rintro τ ⟨i, i1, i2, rfl⟩
    conv => whnf
    rw [hLl]
    refine Branch.of (fun h2 => ?_) (fun h2 => ?_) <;> rw [h2] <;> conv => whnf
    · simp only [decide_eq_true_eq] at h2
      have hi : i < l.length := by omega
      have hp := hl l[i] (List.getElem_mem hi)
      have hai := hat i hi
      have hel := encs_len (l.take i) (fun p hp => hl p (List.mem_of_mem_take hp)) i2
      have hsn : l.take (i + 1) = l.take i ++ [l[i]] := List.take_succ_eq_append_getElem hi
      generalize l[i] = p at hp hai hsn
      obtain ⟨n, t, g⟩ := p
      simp only at hp hai
      obtain ⟨hn, hg⟩ := hp
      simp only at hn hg
      refine ⟨by omega, _, hai, ?_⟩
      conv => whnf
      rw [len8]
      refine Branch.of (fun h3 => ?_) (fun h3 => ?_) <;> rw [h3] <;> conv => whnf
      · refine (c_oawake).mono fun r st e => ?_
        obtain ⟨rfl, rfl⟩ := e
        conv => whnf
        refine ⟨false, [], ?_⟩
        conv => whnf
      simp only [gt_iff_lt, decide_eq_false_iff_not] at h3
      have hel2 : (encs (l.take i)).length ≤ 7040 := by
        have : (l.take i).length ≤ 20 := by simp; omega
        omega
      generalize hE : encs (l.take i) = E at hel2
      refine ⟨tab_9_9, by decide +kernel, ?_⟩
      conv => whnf
      refine ⟨by omega, _, hai, ?_⟩
      conv => whnf
      refine ⟨_, _, c_num E n (by omega) hn (.inr rfl), ?_⟩
      conv => whnf
      have h10 := num_ten hn
      refine ⟨by omega, _, hai, ?_⟩
      conv => whnf
      refine ⟨_, _, c_text0 (E ++ num n) t (by simp; omega) (by omega), ?_⟩
      rw [List.take_of_length_le (show t.length ≤ 65536 by omega)]
      have h11 := num_ten (n := t.length) (by omega)
      conv => whnf
      refine ⟨by omega, _, hai, ?_⟩
      conv => whnf
      refine ⟨_, _, c_hash0 (E ++ num n ++ (num t.length ++ t)) g (by simp; omega) hg, ?_⟩
      conv => whnf
      rw [w64 (x := (i : Int) + 1) (by omega) (by omega)]
      refine ⟨⟨i + 1, by omega, fun p hp => ?_, ?_⟩, ?_⟩
      · rw [hsn] at hp
        rcases List.mem_append.1 hp with hp | hp
        · exact i2 p hp
        · rw [List.mem_singleton.1 hp]
          show t.length ≤ 300
          omega
      · have : encs (l.take (i + 1)) = E ++ num n ++ (num t.length ++ t) ++ g := by
          rw [hsn, encs, List.flatMap_append, ← hE]
          simp [encs, enc]
        rw [this]
        rfl
      · show l.length - ((i : Int) + 1).toNat < l.length - (i : Int).toNat
        omega
    · simp only [decide_eq_false_iff_not] at h2
      have hi : i = l.length := by omega
      subst hi
      rw [List.take_length]
      rw [List.take_length] at i2
      have hel := encs_len l hl i2
      refine (c_read0 (encs l) (by omega)).mono fun r st e => ?_
      obtain ⟨rfl, rfl⟩ := e
      conv => whnf
      refine ⟨false, [0, 2, 5, 6], fun τ => ∃ i : Nat, i ≤ l.length ∧ τ = ⟨87, [(0, .sl (.nd [.lf, .lf, .ar 32 .lf]) L .ro), (2, (AV.sc (.bool (false)))), (5, .pt 0 []), (6, (AV.sc (.int .i64 ((i : Int)))))], ⟨[(.st [(AV.sl .lf (by8 (encs (l.drop i))) .ro), (AV.sc (.bool (false)))], false)], [], 0⟩⟩, fun τ => l.length - (slotI τ 6).toNat, ?_, ?_⟩
      · conv => whnf
        exact ⟨0, Nat.zero_le _, rfl⟩
      · rintro τ ⟨i, i1, rfl⟩
        conv => whnf
        rw [hLl]
        refine Branch.of (fun h3 => ?_) (fun h3 => ?_) <;> rw [h3] <;> conv => whnf
        · simp only [decide_eq_true_eq] at h3
          have hi : i < l.length := by omega
          have hp := hl l[i] (List.getElem_mem hi)
          have hpt := i2 l[i] (List.getElem_mem hi)
          have hai := hat i hi
          have hdr : l.drop i = l[i] :: l.drop (i + 1) := List.drop_eq_getElem_cons hi
          generalize hR : encs (l.drop (i + 1)) = R
          have hen : encs (l.drop i) = enc l[i] ++ R := by rw [hdr, encs, List.flatMap_cons, ← hR]; rfl
          have hRl : R.length ≤ 7040 := by
            rw [← hR]
            have := encs_len (l.drop (i + 1)) (fun p hp => hl p (List.mem_of_mem_drop hp)) (fun p hp => i2 p (List.mem_of_mem_drop hp))
            have : (l.drop (i + 1)).length ≤ 20 := by simp; omega
            omega
          rw [hen]
          generalize l[i] = p at hp hpt hai
          obtain ⟨n, t, g⟩ := p
          simp only at hp hpt hai
          obtain ⟨hn, hg⟩ := hp
          simp only at hn hg
          have h10 := num_ten hn
          have h11 := num_ten (n := t.length) (by omega)
          have e1 : enc (n, t, g) ++ R = num n ++ (num t.length ++ (t ++ (g ++ R))) := by simp [enc]
          rw [e1]
          have c1 := c_rnum (num n ++ (num t.length ++ (t ++ (g ++ R)))) false (by simp; omega)
          rw [rnum_num n _ hn] at c1
          have c2 := c_rtext (num t.length ++ (t ++ (g ++ R))) false (by simp; omega)
          rw [rtext_text t (g ++ R) (by omega)] at c2
          have c3 := c_rhash (g ++ R) false (by simp; omega)
          rw [rhash_hash g R hg] at c3
          simp only at c1 c2 c3
          refine ⟨tab_9_14, by decide +kernel, ?_⟩
          conv => whnf
          refine ⟨_, _, c1, ?_⟩
          conv => whnf
          refine ⟨by omega, _, hai, ?_⟩
          conv => whnf
          rw [show (((n : Nat) : Int) != ((n : Nat) : Int)) = false from bne_self_eq_false _]
          conv => whnf
          refine ⟨_, _, c2, ?_⟩
          conv => whnf
          refine ⟨by omega, _, hai, ?_⟩
          conv => whnf
          have c4 := c_same t t (by omega) (m1 := .ro) (m2 := .ro) (.inr rfl) (.inr rfl)
          rw [beq_self_eq_true] at c4
          refine ⟨_, _, c4, ?_⟩
          conv => whnf
          refine ⟨_, _, c3, ?_⟩
          conv => whnf
          refine ⟨by omega, _, hai, ?_⟩
          conv => whnf
          refine ⟨g, g, rfl, rfl, ?_⟩
          conv => whnf
          rw [show (g == g) = true from beq_self_eq_true _]
          conv => whnf
          rw [w64 (x := (i : Int) + 1) (by omega) (by omega)]
          refine ⟨⟨i + 1, by omega, by rw [hR]; rfl⟩, ?_⟩
          show l.length - ((i : Int) + 1).toNat < l.length - (i : Int).toNat
          omega
        · simp only [decide_eq_false_iff_not] at h3
          have hi : i = l.length := by omega
          subst hi
          rw [List.drop_length]
          refine (c_done [] false).mono fun r st e => ?_
          obtain ⟨rfl, rfl⟩ := e
          conv => whnf
          refine (c_oawake).mono fun r st e => ?_
          obtain ⟨rfl, rfl⟩ := e
          conv => whnf
          refine ⟨false, [], ?_⟩
          conv => whnf
end Go.WL.T1
namespace Go.WL.T1
open Go.WL Go.Proofs
set_option maxHeartbeats 4000000
def val : List UInt8 → Nat
  | [] => 0
  | c :: l => c.toNat % 128 + 128 * val l
theorem val_snoc : ∀ (l : List UInt8) (c : UInt8), val (l ++ [c]) = val l + c.toNat % 128 * 128 ^ l.length
  | [], c => by simp [val]
  | x :: l, c => by
    simp only [List.cons_append, val, val_snoc l c, List.length_cons, Nat.pow_succ]
    rw [Nat.mul_add, ← Nat.mul_assoc 128, Nat.mul_comm 128 (c.toNat % 128), Nat.mul_assoc, Nat.mul_comm 128 (128 ^ l.length)]
    omega
theorem val_num (n : Nat) : val (num n) = n := by
  induction n using Nat.strongRecOn with
  | ind n ih =>
  by_cases c : n < 128
  · rw [num_low c]
    simp [val]
    omega
  · rw [num_high c, val, ih (n / 128) (by omega)]
    simp
    omega
theorem num_shape (n : Nat) : ∃ (p : List UInt8) (c : UInt8), num n = p ++ [c] ∧ (∀ x ∈ p, 128 ≤ x.toNat) ∧ c.toNat < 128 := by
  induction n using Nat.strongRecOn with
  | ind n ih =>
  by_cases c : n < 128
  · exact ⟨[], UInt8.ofNat n, by rw [num_low c]; rfl, by simp, by simp; omega⟩
  · obtain ⟨p, d, h1, h2, h3⟩ := ih (n / 128) (by omega)
    refine ⟨UInt8.ofNat (128 + n % 128) :: p, d, by rw [num_high c, h1]; rfl, fun x hx => ?_, h3⟩
    rcases List.mem_cons.1 hx with rfl | hx
    · simp; omega
    · exact h2 x hx
theorem rdn_ten : ∀ (l : List UInt8) (i a : Nat), (rdn l i a).2 ≤ 10
  | [], i, a => by simp [rdn]
  | c :: l, i, a => by
    rw [rdn]
    split
    · simp
    · split
      · simp
      · split
        · simp; omega
        · exact rdn_ten l _ _
theorem rdn_back : ∀ (l : List UInt8) (i a : Nat), (rdn l i a).2 ≠ 0 → ∃ m, l.take ((rdn l i a).2 - i) = num m ∧ (0 < i → 0 < m) ∧ (rdn l i a).1 = a + m * 128 ^ i
  | [], i, a, h => by simp [rdn] at h
  | c :: l, i, a, h => by
    rw [rdn] at h ⊢
    split at h
    · simp at h
    · rename_i h1
      rw [if_neg h1]
      split at h
      · simp at h
      · rename_i h2
        rw [if_neg h2]
        split at h
        · rename_i h3
          rw [if_pos h3]
          refine ⟨c.toNat, ?_, fun hi => by omega, rfl⟩
          rw [num_low h3]
          simp
        · rename_i h3
          rw [if_neg h3]
          obtain ⟨m, e1, e2, e3⟩ := rdn_back l (i + 1) _ h
          have hs := rdn_size l (i + 1) (a + c.toNat % 128 * 128 ^ i)
          have hm := e2 (by omega)
          have hc := c.toNat_lt
          refine ⟨c.toNat % 128 + 128 * m, ?_, fun _ => by omega, ?_⟩
          · rw [num_high (by omega)]
            have k1 : (c.toNat % 128 + 128 * m) / 128 = m := by omega
            have k2 : (c.toNat % 128 + 128 * m) % 128 = c.toNat % 128 := by omega
            rw [k1, k2, ← e1]
            have k3 : UInt8.ofNat (128 + c.toNat % 128) = c := by
              apply UInt8.toNat_inj.1
              simp
              omega
            rw [k3]
            have k4 : (rdn l (i + 1) (a + c.toNat % 128 * 128 ^ i)).2 - i = ((rdn l (i + 1) (a + c.toNat % 128 * 128 ^ i)).2 - (i + 1)) + 1 := by omega
            rw [k4, List.take_succ_cons]
          · rw [e3, Nat.pow_succ, Nat.add_mul]
            have : m * (128 ^ i * 128) = 128 * m * 128 ^ i := by
              rw [Nat.mul_comm (128 ^ i) 128, ← Nat.mul_assoc, Nat.mul_comm m 128]
            omega
/-- The first byte below 128 ends a number. -/
theorem first_low {l : List UInt8} {i m s : Nat} (hs : l.take s = num m) (hsl : s ≤ l.length) (hi : i < l.length) (hb : ∀ x ∈ l.take i, 128 ≤ x.toNat) (hc : l[i].toNat < 128) : s = i + 1 := by
  obtain ⟨p, c, h1, h2, h3⟩ := num_shape m
  rw [h1] at hs
  have hsp : s = p.length + 1 := by
    have := congrArg List.length hs
    simp at this
    omega
  subst hsp
  have hp : p.length < l.length := by omega
  have e1 : l.take p.length = p ∧ l[p.length] = c := by
    rw [List.take_succ_eq_append_getElem hp] at hs
    have := List.append_inj' hs rfl
    exact ⟨this.1, by simpa using this.2⟩
  rcases Nat.lt_trichotomy i p.length with h | h | h
  · have : l[i] ∈ p := by
      rw [← e1.1]
      exact List.mem_iff_getElem?.2 ⟨i, by rw [List.getElem?_take_of_lt h, List.getElem?_eq_getElem hi]⟩
    have := h2 _ this
    omega
  · omega
  · have : l[p.length] ∈ l.take i := List.mem_iff_getElem?.2 ⟨p.length, by rw [List.getElem?_take_of_lt h, List.getElem?_eq_getElem hp]⟩
    have := hb _ this
    rw [e1.2] at this
    omega
theorem rdn_yes {l : List UInt8} {i n : Nat} (h : l.take (i + 1) = num n) (hi : i < l.length) (hn : n < 18446744073709551616) : rdn l 0 0 = (n, i + 1) := by
  have := rdn_num (l.drop (i + 1)) n 0 0 (by omega) (by omega) (.inl rfl)
  rw [← h, List.take_append_drop] at this
  rw [this]
  simp
  omega
theorem rdn_no {l : List UInt8} {i n : Nat} (hi : i < l.length) (hb : ∀ x ∈ l.take i, 128 ≤ x.toNat) (hc : l[i].toNat < 128) (hn : n = val (l.take (i + 1)) % 18446744073709551616) (h : l.take (i + 1) ≠ num n) : (rdn l 0 0).2 = 0 := by
  refine Decidable.not_not.1 fun hne => ?_
  obtain ⟨m, e1, _, e3⟩ := rdn_back l 0 0 hne
  have hs := rdn_size l 0 0
  have hmax := rdn_max l 0 0 (by omega) (by decide)
  rw [Nat.sub_zero] at e1
  have es := first_low e1 (by omega) hi hb hc
  rw [es] at e1
  rw [e1, val_num] at hn
  have : n = m := by omega
  exact h (by rw [e1, this])
theorem rdn_none {l : List UInt8} {i : Nat} (hi : i = 10 ∨ i = l.length) (hb : ∀ x ∈ l.take i, 128 ≤ x.toNat) : (rdn l 0 0).2 = 0 := by
  refine Decidable.not_not.1 fun hne => ?_
  obtain ⟨m, e1, _, _⟩ := rdn_back l 0 0 hne
  have hs := rdn_size l 0 0
  have ht := rdn_ten l 0 0
  rw [Nat.sub_zero] at e1
  obtain ⟨p, c, h1, h2, h3⟩ := num_shape m
  rw [h1] at e1
  have hc : c ∈ l.take i := by
    have : c ∈ l.take (rdn l 0 0).2 := by rw [e1]; simp
    exact List.mem_of_mem_take (i := (rdn l 0 0).2) (by rw [List.take_take, Nat.min_eq_left (by omega)]; exact this)
  have := hb c hc
  omega
end Go.WL.T1
namespace Go.WL.T1
open Go.WL Go.Proofs
set_option maxRecDepth 20000
set_option maxHeartbeats 4000000
/-- What reading a number makes of the reference's reader: the number, the place, whether something was wrong. -/
def fnum (B : List UInt8) (at_ : Nat) (w : Bool) : Nat × Nat × Bool :=
  if w = true ∨ (rdn (B.drop at_) 0 0).2 = 0 then (0, at_, true) else ((rdn (B.drop at_) 0 0).1, at_ + (rdn (B.drop at_) 0 0).2, false)
theorem wn64 (k : Nat) : IntKind.u64.wrap ((k : Nat) : Int) = ((k % 18446744073709551616 : Nat) : Int) := by
  simp [IntKind.wrap, IntKind.signed, IntKind.bits]
theorem c_readnum (B : List UInt8) (at_ : Nat) (w : Bool) (hB : B.length < 4000000000) (hat : at_ ≤ B.length) : FnOK Try.prog D 41 [.st [(AV.sl .lf (by8 (B)) .ro), (AV.sc (.int .i64 ((at_ : Int)))), (AV.sc (.bool (w)))]] [] (fun r st => r = .tup [.st [(AV.sl .lf (by8 (B)) .ro), (AV.sc (.int .i64 (((fnum B at_ w).2.1 : Int)))), (AV.sc (.bool ((fnum B at_ w).2.2)))], (AV.sc (.int .u64 (((fnum B at_ w).1 : Int))))] ∧ st = []) := by
  cases w with
  | true =>
    rw [show fnum B at_ true = (0, at_, true) from if_pos (.inl rfl)]
    refine fnok_of_W hmix tabOK Try.func41 rfl rfl (Nat.le_of_ble_eq_true rfl) ?_
    conv => whnf
    refine ⟨false, [], ?_⟩
    conv => whnf
    exact ⟨rfl, rfl⟩
  | false =>
    have hf : fnum B at_ false = if (rdn (B.drop at_) 0 0).2 = 0 then (0, at_, true) else ((rdn (B.drop at_) 0 0).1, at_ + (rdn (B.drop at_) 0 0).2, false) := by
      unfold fnum
      simp
    rw [hf]
    generalize hl : B.drop at_ = l
    have hll : l.length = B.length - at_ := by rw [← hl]; simp
    have hget : ∀ (i : Nat) (hi : i < l.length), (by8 B)[((at_ + i : Nat) : Int).toNat]? = some ((AV.sc (.int .u8 ((l[i].toNat : Int))))) := by
      intro i hi
      have h1 : at_ + i < B.length := by omega
      rw [at8 h1]
      congr 4
      simp [← hl]
    refine fnok_of_W hmix tabOK Try.func41 rfl rfl (Nat.le_of_ble_eq_true rfl) ?_
    conv => whnf
    refine ⟨false, [1, 2, 3, 4, 5, 6], fun τ => ∃ i : Nat, i ≤ 10 ∧ i ≤ l.length ∧ (∀ x ∈ l.take i, 128 ≤ x.toNat) ∧ τ = ⟨73, [(1, .pt 0 []), (2, .pt 1 []), (3, (AV.sc (.int .u64 (0)))), (4, (AV.sc (.int .u64 (((val (l.take i) % 18446744073709551616 : Nat) : Int))))), (5, (AV.sc (.int .u64 (((128 ^ i % 18446744073709551616 : Nat) : Int))))), (6, (AV.sc (.int .i64 ((i : Int)))))], ⟨[(.st [(AV.sl .lf (by8 (B)) .ro), (AV.sc (.int .i64 ((at_ : Int)))), (AV.sc (.bool (false)))], false), (.st [.sl .lf [] .ex, (AV.sc (.int .i64 (0))), (AV.sc (.bool (false)))], false)], [], 0⟩⟩, fun τ => 11 - (slotI τ 6).toNat, ?_, ?_⟩
    · conv => whnf
      exact ⟨0, by omega, by omega, by simp, rfl⟩
    · rintro τ ⟨i, i1, i2, i3, rfl⟩
      generalize hnv : val (l.take i) % 18446744073709551616 = nv
      generalize huv : 128 ^ i % 18446744073709551616 = uv
      have hnvl : nv < 18446744073709551616 := by omega
      have huvl : uv < 18446744073709551616 := by omega
      have wat : IntKind.i64.wrap (((at_ : Nat) : Int) + ((i : Nat) : Int)) = ((at_ + i : Nat) : Int) := by rw [w64 (by omega) (by omega)]; omega
      conv => whnf
      refine Branch.of (fun h => ?_) (fun h => ?_) <;> rw [h] <;> conv => whnf
      · simp only [decide_eq_true_eq] at h
        rw [wat, len8]
        refine Branch.of (fun h2 => ?_) (fun h2 => ?_) <;> rw [h2] <;> conv => whnf
        · simp only [decide_eq_true_eq] at h2
          have hi : i < l.length := by omega
          have hgi := hget i hi
          have hts := List.take_succ_eq_append_getElem hi
          have hvs := val_snoc (l.take i) l[i]
          rw [← hts, List.length_take, Nat.min_eq_left (by omega)] at hvs
          generalize hc : l[i] = c at hgi hts hvs
          have hno : ∀ n, c.toNat < 128 → n = val (l.take (i + 1)) % 18446744073709551616 → l.take (i + 1) ≠ num n → (rdn l 0 0).2 = 0 := fun n h1 h2 h3 => rdn_no hi i3 (by rw [hc]; exact h1) h2 h3
          rw [wat]
          refine ⟨by omega, _, hgi, ?_⟩
          conv => whnf
          refine ⟨by omega, ?_⟩
          conv => whnf
          rw [Int.tmod_eq_emod_of_nonneg (by omega), show ((c.toNat : Nat) : Int) % 128 = ((c.toNat % 128 : Nat) : Int) by omega, wu64 (x := ((c.toNat % 128 : Nat) : Int)) (by omega) (by omega), ← Int.natCast_mul (c.toNat % 128) uv, wn64 (c.toNat % 128 * uv), ← Int.natCast_add nv (c.toNat % 128 * uv % 18446744073709551616), wn64 (nv + c.toNat % 128 * uv % 18446744073709551616)]
          have hn2 : (nv + c.toNat % 128 * uv % 18446744073709551616) % 18446744073709551616 = val (l.take (i + 1)) % 18446744073709551616 := by
            rw [hvs, ← hnv, ← huv]
            simp [Nat.add_mod, Nat.mul_mod]
          rw [hn2]
          rw [wat]
          refine ⟨by omega, _, hgi, ?_⟩
          have hu2 : IntKind.u64.wrap (((uv : Nat) : Int) * 128) = ((128 ^ (i + 1) % 18446744073709551616 : Nat) : Int) := by
            rw [show ((uv : Nat) : Int) * 128 = ((uv * 128 : Nat) : Int) by omega, wn64, ← huv, Nat.pow_succ]
            congr 1
            simp [Nat.mul_mod]
          rw [hu2]
          have hvl : val (l.take (i + 1)) % 18446744073709551616 < 18446744073709551616 := Nat.mod_lt _ (by decide)
          conv => whnf
          refine Branch.of (fun h3 => ?_) (fun h3 => ?_) <;> rw [h3] <;> conv => whnf
          · simp only [decide_eq_true_eq] at h3
            have hc128 : c.toNat < 128 := by omega
            generalize hv : val (l.take (i + 1)) % 18446744073709551616 = v at hvl
            refine ⟨tab_41_11, by decide +kernel, ?_⟩
            conv => whnf
            refine ⟨_, _, c_refnum v hvl, ?_⟩
            conv => whnf
            have wat2 : IntKind.i64.wrap (((at_ + i : Nat) : Int) + 1) = ((at_ + i + 1 : Nat) : Int) := by rw [w64 (by omega) (by omega)]; omega
            rw [wat, wat2]
            refine ⟨by omega, ?_⟩
            conv => whnf
            refine ⟨by omega, ?_⟩
            conv => whnf
            refine ⟨by omega, by rw [len8]; omega, ?_⟩
            conv => whnf
            have hsl : List.take ((((at_ + i + 1 : Nat) : Int)).toNat - ((at_ : Nat) : Int).toNat) (List.drop ((at_ : Nat) : Int).toNat (by8 B)) = by8 (l.take (i + 1)) := by
              rw [Int.toNat_natCast, Int.toNat_natCast, show at_ + i + 1 - at_ = i + 1 by omega, ← hl]
              simp [by8]
            rw [hsl]
            have h10 := num_ten hvl
            have cs := c_same (num v) (l.take (i + 1)) (by omega) (m1 := .ro) (m2 := .ro) (.inr rfl) (.inr rfl)
            by_cases hsame : l.take (i + 1) = num v
            · rw [show (num v == l.take (i + 1)) = true by rw [hsame]; exact beq_self_eq_true _] at cs
              refine ⟨_, _, cs, ?_⟩
              conv => whnf
              have hy := rdn_yes hsame hi hvl
              rw [hy, if_neg (by simp)]
              rw [wat, wat2]
              refine ⟨false, [], ?_⟩
              conv => whnf
              exact ⟨rfl, rfl⟩
            · rw [show (num v == l.take (i + 1)) = false from beq_eq_false_iff_ne.2 fun e => hsame e.symm] at cs
              refine ⟨_, _, cs, ?_⟩
              conv => whnf
              rw [if_pos (hno v hc128 hv.symm hsame)]
              refine ⟨false, [], ?_⟩
              conv => whnf
              exact ⟨rfl, rfl⟩
          · simp only [decide_eq_false_iff_not] at h3
            rw [w64 (x := (i : Int) + 1) (by omega) (by omega)]
            refine ⟨⟨i + 1, by omega, by omega, fun x hx => ?_, rfl⟩, ?_⟩
            · rw [hts] at hx
              rcases List.mem_append.1 hx with hx | hx
              · exact i3 x hx
              · rw [List.mem_singleton.1 hx]; omega
            · show 11 - ((i : Int) + 1).toNat < 11 - (i : Int).toNat
              omega
        · simp only [decide_eq_false_iff_not] at h2
          have hno : (rdn l 0 0).2 = 0 := rdn_none (i := i) (.inr (by omega)) i3
          rw [if_pos hno]
          refine ⟨false, [], ?_⟩
          conv => whnf
          exact ⟨rfl, rfl⟩
      · simp only [decide_eq_false_iff_not] at h
        have hno : (rdn l 0 0).2 = 0 := rdn_none (i := i) (.inl (by omega)) i3
        rw [if_pos hno]
        refine ⟨false, [], ?_⟩
        conv => whnf
        exact ⟨rfl, rfl⟩
end Go.WL.T1
namespace Go.WL.T1
open Go.WL Go.Proofs
set_option maxRecDepth 20000
set_option maxHeartbeats 4000000
def fupto (B : List UInt8) (at_ : Nat) (w : Bool) (top : Int) : Nat × Nat × Bool :=
  if (fnum B at_ w).2.2 = true ∨ top < 0 ∨ ((fnum B at_ w).1 : Int) > top then (0, at_, true) else fnum B at_ w
def ftext (B : List UInt8) (at_ : Nat) (w : Bool) : List UInt8 × Nat × Bool :=
  if (fupto B at_ w 65536).2.2 = true ∨ (fupto B at_ w 65536).1 > B.length - (fupto B at_ w 65536).2.1 then ([], at_, true)
  else ((B.drop (fupto B at_ w 65536).2.1).take (fupto B at_ w 65536).1, (fupto B at_ w 65536).2.1 + (fupto B at_ w 65536).1, false)
def fhash (B : List UInt8) (at_ : Nat) (w : Bool) : List UInt8 × Nat × Bool :=
  if w = true ∨ B.length - at_ < 32 then (List.replicate 32 0, at_, true) else ((B.drop at_).take 32, at_ + 32, false)
theorem fnum_rnum (B : List UInt8) (at_ : Nat) (w : Bool) : rnum (B.drop at_) w = ((fnum B at_ w).1, B.drop (fnum B at_ w).2.1, (fnum B at_ w).2.2) := by
  unfold rnum fnum
  cases w with
  | true => simp
  | false =>
    by_cases h : (rdn (B.drop at_) 0 0).2 = 0
    · simp [h]
    · simp [h, List.drop_drop]
theorem fnum_at (B : List UInt8) (at_ : Nat) (w : Bool) (h : at_ ≤ B.length) : (fnum B at_ w).2.1 ≤ B.length := by
  unfold fnum
  split
  · exact h
  · have := rdn_size (B.drop at_) 0 0
    simp at this
    show at_ + _ ≤ _
    omega
theorem fnum_max (B : List UInt8) (at_ : Nat) (w : Bool) : (fnum B at_ w).1 < 18446744073709551616 := by
  have := rnum_max (B.drop at_) w
  rw [fnum_rnum] at this
  exact this
theorem c_readupto (B : List UInt8) (at_ : Nat) (w : Bool) (top : Int) (ht : -9223372036854775808 ≤ top ∧ top < 9223372036854775808) (hB : B.length < 4000000000) (hat : at_ ≤ B.length) : FnOK Try.prog D 44 [.st [(AV.sl .lf (by8 (B)) .ro), (AV.sc (.int .i64 ((at_ : Int)))), (AV.sc (.bool (w)))], (AV.sc (.int .i64 (top)))] [] (fun r st => r = .tup [.st [(AV.sl .lf (by8 (B)) .ro), (AV.sc (.int .i64 (((fupto B at_ w top).2.1 : Int)))), (AV.sc (.bool ((fupto B at_ w top).2.2)))], (AV.sc (.int .i64 (((fupto B at_ w top).1 : Int))))] ∧ st = []) := by
  have hm := fnum_max B at_ w
  have c1 := c_readnum B at_ w hB hat
  have hf : fupto B at_ w top = if (fnum B at_ w).2.2 = true ∨ top < 0 ∨ ((fnum B at_ w).1 : Int) > top then (0, at_, true) else fnum B at_ w := rfl
  rw [hf]
  generalize fnum B at_ w = x at hm c1
  obtain ⟨n, a', w'⟩ := x
  simp only at hm c1 ⊢
  refine fnok_of_W hmix tabOK Try.func44 rfl rfl (Nat.le_of_ble_eq_true rfl) ?_
  conv => whnf
  refine c1.mono fun r st e => ?_
  obtain ⟨rfl, rfl⟩ := e
  cases w' with
  | true =>
    rw [if_pos (.inl rfl)]
    conv => whnf
    refine ⟨false, [], ?_⟩
    conv => whnf
    exact ⟨rfl, rfl⟩
  | false =>
    conv => whnf
    refine Branch.of (fun h => ?_) (fun h => ?_) <;> rw [h] <;> conv => whnf
    · simp only [decide_eq_true_eq] at h
      rw [if_pos (.inr (.inl h))]
      refine ⟨false, [], ?_⟩
      conv => whnf
      exact ⟨rfl, rfl⟩
    simp only [decide_eq_false_iff_not] at h
    rw [wu64 (x := top) (by omega) (by omega)]
    refine Branch.of (fun h2 => ?_) (fun h2 => ?_) <;> rw [h2] <;> conv => whnf
    · simp only [gt_iff_lt, decide_eq_true_eq] at h2
      rw [if_pos (.inr (.inr h2))]
      refine ⟨false, [], ?_⟩
      conv => whnf
      exact ⟨rfl, rfl⟩
    simp only [gt_iff_lt, decide_eq_false_iff_not] at h2
    rw [if_neg (by simp; omega), w64 (x := ((n : Nat) : Int)) (by omega) (by omega)]
    refine ⟨false, [], ?_⟩
    conv => whnf
    exact ⟨rfl, rfl⟩
theorem fupto_at (B : List UInt8) (at_ : Nat) (w : Bool) (top : Int) (h : at_ ≤ B.length) : (fupto B at_ w top).2.1 ≤ B.length := by
  unfold fupto
  split
  · exact h
  · exact fnum_at B at_ w h
theorem fupto_le (B : List UInt8) (at_ : Nat) (w : Bool) (top : Int) (h : 0 ≤ top) : ((fupto B at_ w top).1 : Int) ≤ top := by
  unfold fupto
  split
  · simpa using h
  · rename_i c
    omega
theorem c_readtext (B : List UInt8) (at_ : Nat) (w : Bool) (hB : B.length < 4000000000) (hat : at_ ≤ B.length) : FnOK Try.prog D 42 [.st [(AV.sl .lf (by8 (B)) .ro), (AV.sc (.int .i64 ((at_ : Int)))), (AV.sc (.bool (w)))]] [] (fun r st => r = .tup [.st [(AV.sl .lf (by8 (B)) .ro), (AV.sc (.int .i64 (((ftext B at_ w).2.1 : Int)))), (AV.sc (.bool ((ftext B at_ w).2.2)))], (AV.sl .lf (by8 ((ftext B at_ w).1)) (.own 0))] ∧ st = []) := by
  have hm := fupto_le B at_ w 65536 (by decide)
  have ha := fupto_at B at_ w 65536 hat
  have c1 := c_readupto B at_ w 65536 (by decide) hB hat
  have hf : ftext B at_ w = if (fupto B at_ w 65536).2.2 = true ∨ (fupto B at_ w 65536).1 > B.length - (fupto B at_ w 65536).2.1 then ([], at_, true)
    else ((B.drop (fupto B at_ w 65536).2.1).take (fupto B at_ w 65536).1, (fupto B at_ w 65536).2.1 + (fupto B at_ w 65536).1, false) := rfl
  rw [hf]
  generalize fupto B at_ w 65536 = x at hm ha c1
  obtain ⟨n, a', w'⟩ := x
  simp only at hm ha c1 ⊢
  refine fnok_of_W hmix tabOK Try.func42 rfl rfl (Nat.le_of_ble_eq_true rfl) ?_
  conv => whnf
  refine c1.mono fun r st e => ?_
  obtain ⟨rfl, rfl⟩ := e
  cases w' with
  | true =>
    rw [if_pos (.inl rfl)]
    conv => whnf
    refine ⟨true, [], ?_⟩
    conv => whnf
    exact ⟨rfl, rfl⟩
  | false =>
    conv => whnf
    rw [len8, w64 (x := ((B.length : Nat) : Int) - ((a' : Nat) : Int)) (by omega) (by omega)]
    refine Branch.of (fun h => ?_) (fun h => ?_) <;> rw [h] <;> conv => whnf
    · simp only [gt_iff_lt, decide_eq_true_eq] at h
      rw [if_pos (.inr (by omega))]
      refine ⟨true, [], ?_⟩
      conv => whnf
      exact ⟨rfl, rfl⟩
    simp only [gt_iff_lt, decide_eq_false_iff_not] at h
    rw [if_neg (by simp; omega), w64 (x := ((a' : Nat) : Int) + ((n : Nat) : Int)) (by omega) (by omega)]
    refine ⟨by omega, ?_⟩
    conv => whnf
    refine ⟨by omega, ?_⟩
    conv => whnf
    refine ⟨by omega, by rw [len8]; omega, ?_⟩
    conv => whnf
    have hsl : List.take ((((a' : Nat) : Int) + ((n : Nat) : Int)).toNat - ((a' : Nat) : Int).toNat) (List.drop ((a' : Nat) : Int).toNat (by8 B)) = by8 ((B.drop a').take n) := by
      rw [show (((a' : Nat) : Int) + ((n : Nat) : Int)).toNat - ((a' : Nat) : Int).toNat = n by omega, Int.toNat_natCast]
      simp [by8]
    rw [hsl]
    refine ⟨by rw [len8]; simp; omega, ?_⟩
    conv => whnf
    rw [show List.replicate 0 (AV.sc (.int .u8 0)) ++ by8 ((B.drop a').take n) = by8 ((B.drop a').take n) from List.nil_append _, w64 (x := ((a' : Nat) : Int) + ((n : Nat) : Int)) (by omega) (by omega)]
    refine ⟨false, [], ?_⟩
    conv => whnf
    refine ⟨?_, rfl⟩
    rw [Int.natCast_add]
end Go.WL.T1
namespace Go.WL.T1
open Go.WL Go.Proofs
set_option maxRecDepth 20000
set_option maxHeartbeats 4000000
def part (l : List UInt8) (i : Nat) : List UInt8 := l.take i ++ List.replicate (32 - i) 0
theorem part_len (l : List UInt8) (i : Nat) (h : 32 ≤ l.length) (hi : i ≤ 32) : (part l i).length = 32 := by simp [part]; omega
theorem part_set (l : List UInt8) (i : Nat) (h : i < l.length) (hi : i < 32) : (by8 (part l i)).set i ((AV.sc (.int .u8 ((l[i].toNat : Int))))) = by8 (part l (i + 1)) := by
  have e : (part l i).set i l[i] = part l (i + 1) := by
    unfold part
    rw [List.take_succ_eq_append_getElem h, List.append_assoc]
    have h1 : (l.take i).length = i := by simp; omega
    rw [List.set_append_right _ _ (by omega), h1, Nat.sub_self]
    congr 1
    rw [show 32 - i = (32 - (i + 1)) + 1 by omega, List.replicate_succ]
    rfl
  rw [← e]
  simp [by8]
theorem c_readhash (B : List UInt8) (at_ : Nat) (w : Bool) (hB : B.length < 4000000000) (hat : at_ ≤ B.length) : FnOK Try.prog D 43 [.st [(AV.sl .lf (by8 (B)) .ro), (AV.sc (.int .i64 ((at_ : Int)))), (AV.sc (.bool (w)))]] [] (fun r st => r = .tup [.st [(AV.sl .lf (by8 (B)) .ro), (AV.sc (.int .i64 (((fhash B at_ w).2.1 : Int)))), (AV.sc (.bool ((fhash B at_ w).2.2)))], .ar 32 .lf (by8 (fhash B at_ w).1)] ∧ st = []) := by
  cases w with
  | true =>
    rw [show fhash B at_ true = (List.replicate 32 0, at_, true) from if_pos (.inl rfl)]
    refine fnok_of_W hmix tabOK Try.func43 rfl rfl (Nat.le_of_ble_eq_true rfl) ?_
    conv => whnf
    refine ⟨tab_43_4, by decide +kernel, ?_⟩
    conv => whnf
    refine ⟨false, [], ?_⟩
    conv => whnf
    exact ⟨rfl, rfl⟩
  | false =>
    have hf : fhash B at_ false = if B.length - at_ < 32 then (List.replicate 32 0, at_, true) else ((B.drop at_).take 32, at_ + 32, false) := by
      unfold fhash
      simp
    rw [hf]
    refine fnok_of_W hmix tabOK Try.func43 rfl rfl (Nat.le_of_ble_eq_true rfl) ?_
    conv => whnf
    rw [len8, w64 (x := ((B.length : Nat) : Int) - ((at_ : Nat) : Int)) (by omega) (by omega)]
    refine Branch.of (fun h => ?_) (fun h => ?_) <;> rw [h] <;> conv => whnf
    · simp only [decide_eq_true_eq] at h
      rw [if_pos (by omega)]
      refine ⟨tab_43_4, by decide +kernel, ?_⟩
      conv => whnf
      refine ⟨false, [], ?_⟩
      conv => whnf
      exact ⟨rfl, rfl⟩
    simp only [decide_eq_false_iff_not] at h
    rw [if_neg (by omega)]
    generalize hl : B.drop at_ = l
    have hll : l.length = B.length - at_ := by rw [← hl]; simp
    have hget : ∀ (i : Nat) (hi : i < l.length), (by8 B)[((at_ + i : Nat) : Int).toNat]? = some ((AV.sc (.int .u8 ((l[i].toNat : Int))))) := by
      intro i hi
      have h1 : at_ + i < B.length := by omega
      rw [at8 h1]
      congr 4
      simp [← hl]
    refine ⟨false, [1, 2, 3, 4, 5], fun τ => ∃ i : Nat, i ≤ 32 ∧ τ = ⟨41, [(1, .pt 0 []), (2, .pt 1 []), (3, .pt 2 []), (4, .pt 3 []), (5, (AV.sc (.int .i64 ((i : Int)))))], ⟨[(.st [(AV.sl .lf (by8 (B)) .ro), (AV.sc (.int .i64 ((at_ : Int)))), (AV.sc (.bool (false)))], false), (.st [.sl .lf [] .ex, (AV.sc (.int .i64 (0))), (AV.sc (.bool (false)))], false), (.ar 32 .lf (List.replicate 32 ((AV.sc (.int .u8 (0))))), false), (.ar 32 .lf (by8 (part l i)), false)], [], 0⟩⟩, fun τ => 32 - (slotI τ 5).toNat, ?_, ?_⟩
    · conv => whnf
      exact ⟨0, by omega, rfl⟩
    · rintro τ ⟨i, i1, rfl⟩
      have wat : i < 32 → IntKind.i64.wrap (((at_ : Nat) : Int) + ((i : Nat) : Int)) = ((at_ + i : Nat) : Int) := by intro _; rw [w64 (by omega) (by omega)]; omega
      conv => whnf
      refine Branch.of (fun h2 => ?_) (fun h2 => ?_) <;> rw [h2] <;> conv => whnf
      · simp only [decide_eq_true_eq] at h2
        have hi : i < l.length := by omega
        have hgi := hget i hi
        have hps := part_set l i hi (by omega)
        have hpl := part_len l i (by omega) (by omega)
        rw [wat (by omega)]
        refine ⟨by omega, _, hgi, ?_⟩
        generalize l[i] = c at hgi hps
        conv => whnf
        refine ⟨by omega, by omega, ?_⟩
        conv => whnf
        have hold : (by8 (part l i))[((i : Nat) : Int).toNat]? = some ((AV.sc (.int .u8 (((part l i)[i]'(by omega)).toNat : Int)))) := at8 (by omega)
        refine ⟨_, hold, ?_⟩
        conv => whnf
        rw [Int.toNat_natCast, hps, w64 (x := (i : Int) + 1) (by omega) (by omega)]
        refine ⟨⟨i + 1, by omega, rfl⟩, ?_⟩
        show 32 - ((i : Int) + 1).toNat < 32 - (i : Int).toNat
        omega
      · simp only [decide_eq_false_iff_not] at h2
        have e : i = 32 := by omega
        subst e
        rw [show part l 32 = l.take 32 by simp [part]]
        rw [w64 (x := ((at_ : Nat) : Int) + 32) (by omega) (by omega)]
        refine ⟨tab_43_10, by decide +kernel, ?_⟩
        conv => whnf
        refine ⟨false, [], ?_⟩
        conv => whnf
        refine ⟨?_, rfl⟩
        rw [show ((at_ : Nat) : Int) + 32 = ((at_ + 32 : Nat) : Int) by omega]
end Go.WL.T1
namespace Go.WL.T1
open Go.WL Go.Proofs
set_option maxRecDepth 20000
set_option maxHeartbeats 8000000
theorem c_within (n lo hi : Int) : FnOK Try.prog D 97 [(AV.sc (.int .i64 (n))), (AV.sc (.int .i64 (lo))), (AV.sc (.int .i64 (hi)))] [] (fun r st => r = (AV.sc (.bool (decide (lo ≤ n ∧ n ≤ hi)))) ∧ st = []) := by
  refine fnok_of_W hmix tabOK Try.func97 rfl rfl (Nat.le_of_ble_eq_true rfl) ?_
  conv => whnf
  refine Branch.of (fun h => ?_) (fun h => ?_) <;> rw [h] <;> conv => whnf
  · simp only [ge_iff_le, decide_eq_true_eq] at h
    refine ⟨false, [], ?_⟩
    conv => whnf
    refine ⟨?_, rfl⟩
    congr 2
    simp [h]
  · simp only [ge_iff_le, decide_eq_false_iff_not] at h
    refine ⟨false, [], ?_⟩
    conv => whnf
    refine ⟨?_, rfl⟩
    congr 2
    simp [h]
@[irreducible] def mayR (h p c : Int) : Bool := decide (1 ≤ h ∧ h ≤ 1099511627776 ∧ 0 ≤ p ∧ p ≤ 7 ∧ 0 ≤ c ∧ c ≤ 20)
theorem mayR_eq (h p c : Int) : mayR h p c = decide (1 ≤ h ∧ h ≤ 1099511627776 ∧ 0 ≤ p ∧ p ≤ 7 ∧ 0 ≤ c ∧ c ≤ 20) := by unfold mayR; rfl
theorem c_may (g : List UInt8) (h p c : Int) : FnOK Try.prog D 87 [.st [.ar 32 .lf (by8 g), (AV.sc (.int .i64 (h))), (AV.sc (.int .i64 (p))), (AV.sc (.int .i64 (c)))]] [] (fun r st => r = (AV.sc (.bool (mayR h p c))) ∧ st = []) := by
  rw [mayR_eq]
  refine fnok_of_W hmix tabOK Try.func87 rfl rfl (Nat.le_of_ble_eq_true rfl) ?_
  conv => whnf
  refine (c_within h 1 1099511627776).mono fun r st e => ?_
  obtain ⟨rfl, rfl⟩ := e
  conv => whnf
  refine Branch.of (fun h1 => ?_) (fun h1 => ?_) <;> rw [h1] <;> conv => whnf
  · simp only [decide_eq_true_eq] at h1
    refine (c_within p 0 7).mono fun r st e => ?_
    obtain ⟨rfl, rfl⟩ := e
    conv => whnf
    refine Branch.of (fun h2 => ?_) (fun h2 => ?_) <;> rw [h2] <;> conv => whnf
    · simp only [decide_eq_true_eq] at h2
      refine (c_within c 0 20).mono fun r st e => ?_
      obtain ⟨rfl, rfl⟩ := e
      conv => whnf
      refine ⟨false, [], ?_⟩
      conv => whnf
      refine ⟨?_, rfl⟩
      congr 2
      rw [decide_eq_decide]
      omega
    · simp only [decide_eq_false_iff_not] at h2
      refine ⟨false, [], ?_⟩
      conv => whnf
      refine ⟨?_, rfl⟩
      congr 2
      exact (decide_eq_false (by omega)).symm
  · simp only [decide_eq_false_iff_not] at h1
    refine ⟨false, [], ?_⟩
    conv => whnf
    refine ⟨?_, rfl⟩
    congr 2
    exact (decide_eq_false (by omega)).symm
theorem c_refmay (g : List UInt8) (h p c : Int) : FnOK Try.prog D 62 [.st [.ar 32 .lf (by8 g), (AV.sc (.int .i64 (h))), (AV.sc (.int .i64 (p))), (AV.sc (.int .i64 (c)))]] [] (fun r st => r = (AV.sc (.bool (mayR h p c))) ∧ st = []) := by
  rw [mayR_eq]
  refine fnok_of_W hmix tabOK Try.func62 rfl rfl (Nat.le_of_ble_eq_true rfl) ?_
  conv => whnf
  refine Branch.of (fun h1 => ?_) (fun h1 => ?_) <;> rw [h1] <;> conv => whnf
  rotate_left
  · refine ⟨false, [], ?_⟩
    conv => whnf
    simp only [ge_iff_le, decide_eq_false_iff_not] at h1
    refine ⟨?_, rfl⟩
    congr 2
    exact (decide_eq_false (by omega)).symm
  refine Branch.of (fun h2 => ?_) (fun h2 => ?_) <;> rw [h2] <;> conv => whnf
  rotate_left
  · refine ⟨false, [], ?_⟩
    conv => whnf
    simp only [ge_iff_le, decide_eq_false_iff_not] at h2
    refine ⟨?_, rfl⟩
    congr 2
    exact (decide_eq_false (by omega)).symm
  refine Branch.of (fun h3 => ?_) (fun h3 => ?_) <;> rw [h3] <;> conv => whnf
  rotate_left
  · refine ⟨false, [], ?_⟩
    conv => whnf
    simp only [ge_iff_le, decide_eq_false_iff_not] at h3
    refine ⟨?_, rfl⟩
    congr 2
    exact (decide_eq_false (by omega)).symm
  refine Branch.of (fun h4 => ?_) (fun h4 => ?_) <;> rw [h4] <;> conv => whnf
  rotate_left
  · refine ⟨false, [], ?_⟩
    conv => whnf
    simp only [ge_iff_le, decide_eq_false_iff_not] at h4
    refine ⟨?_, rfl⟩
    congr 2
    exact (decide_eq_false (by omega)).symm
  refine Branch.of (fun h5 => ?_) (fun h5 => ?_) <;> rw [h5] <;> conv => whnf
  rotate_left
  · refine ⟨false, [], ?_⟩
    conv => whnf
    simp only [ge_iff_le, decide_eq_false_iff_not] at h5
    refine ⟨?_, rfl⟩
    congr 2
    exact (decide_eq_false (by omega)).symm
  refine ⟨false, [], ?_⟩
  conv => whnf
  simp only [ge_iff_le, decide_eq_true_eq] at h1 h2 h3 h4 h5
  refine ⟨?_, rfl⟩
  congr 2
  rw [decide_eq_decide]
  omega
theorem c_hbytes (g : List UInt8) (hg : g.length = 32) : FnOK Try.prog D 88 [.ar 32 .lf (by8 g)] [] (fun r st => r = (AV.sl .lf (by8 (g)) (.own 0)) ∧ st = []) := by
  refine fnok_of_W hmix tabOK Try.func88 rfl rfl (Nat.le_of_ble_eq_true rfl) ?_
  conv => whnf
  refine ⟨true, [1, 3, 4], fun τ => ∃ i : Nat, i ≤ 32 ∧ τ = ⟨17, [(1, .pt 0 []), (3, (AV.sl .lf (by8 (g.take i)) (.own 0))), (4, (AV.sc (.int .i64 ((i : Int)))))], ⟨[(.ar 32 .lf (by8 g), false)], [0], 1⟩⟩, fun τ => 32 - (slotI τ 4).toNat, ?_, ?_⟩
  · conv => whnf
    exact ⟨0, by omega, rfl⟩
  · rintro τ ⟨i, hi, rfl⟩
    conv => whnf
    refine Branch.of (fun h3 => ?_) (fun h3 => ?_) <;> rw [h3] <;> conv => whnf
    · simp only [decide_eq_true_eq] at h3
      have ih : i < g.length := by omega
      refine ⟨by omega, by omega, ?_⟩
      conv => whnf
      refine ⟨_, at8 ih, ?_⟩
      conv => whnf
      refine ⟨by rw [len8]; simp; omega, ?_⟩
      conv => whnf
      rw [w64 (x := (i : Int) + 1) (by omega) (by omega), snoc8 (g.take i) (n := g[i].toNat) g[i].toNat_lt]
      refine ⟨⟨i + 1, by omega, ?_⟩, ?_⟩
      · rw [UInt8.ofNat_toNat, ← List.take_succ_eq_append_getElem ih]
        rfl
      · show 32 - ((i : Int) + 1).toNat < 32 - (i : Int).toNat
        omega
    · simp only [decide_eq_false_iff_not] at h3
      have e : i = 32 := by omega
      subst e
      rw [← hg, List.take_length]
      refine ⟨false, [], ?_⟩
      conv => whnf
      exact ⟨rfl, rfl⟩
end Go.WL.T1
namespace Go.WL.T1
open Go.WL Go.Proofs
set_option maxRecDepth 20000
set_option maxHeartbeats 8000000
theorem c_num' (b : List UInt8) (n : Nat) (hb : b.length < 4000000000) (hn : n < 18446744073709551616) {m : Mark} (hm : m = .ex ∨ m = .ro) : FnOK Try.prog D 29 [.sl .lf (by8 b) m, (AV.sc (.int .u64 ((n : Int))))] [] (fun r st => r = (AV.sl .lf (by8 (b ++ num n)) (.own 0)) ∧ st = []) := c_num b n hb hn hm
theorem c_hashnil (g : List UInt8) (hg : g.length = 32) : FnOK Try.prog D 27 [.sl .lf [] .ex, .ar 32 .lf (by8 g)] [] (fun r st => r = (AV.sl .lf (by8 (g)) (.own 0)) ∧ st = []) := by
  have := c_hash0 [] g (by simp) hg
  rw [List.nil_append] at this
  exact this.weak (.cons (.sl (.inl rfl) (Weaks.refl _)) (.cons (.refl _) .nil))
/-- What a receipt is put as. -/
def putR (g : List UInt8) (h p c : Nat) : List UInt8 := g ++ (num h ++ (num p ++ num c))
theorem c_put_no (g : List UInt8) (h p c : Int) (hm : mayR h p c = false) : FnOK Try.prog D 61 [.st [.ar 32 .lf (by8 g), (AV.sc (.int .i64 (h))), (AV.sc (.int .i64 (p))), (AV.sc (.int .i64 (c)))]] [] (fun r st => r = .tup [.sl .lf [] .ex, (AV.sc (.int .i64 (1)))] ∧ st = []) := by
  have c1 := c_may g h p c
  rw [hm] at c1
  refine fnok_of_W hmix tabOK Try.func61 rfl rfl (Nat.le_of_ble_eq_true rfl) ?_
  conv => whnf
  refine c1.mono fun r st e => ?_
  obtain ⟨rfl, rfl⟩ := e
  conv => whnf
  refine ⟨false, [], ?_⟩
  conv => whnf
  exact ⟨rfl, rfl⟩
theorem c_put_yes (g : List UInt8) (h p c : Nat) (hg : g.length = 32) (hm : mayR h p c = true) : FnOK Try.prog D 61 [.st [.ar 32 .lf (by8 g), (AV.sc (.int .i64 ((h : Int)))), (AV.sc (.int .i64 ((p : Int)))), (AV.sc (.int .i64 ((c : Int))))]] [] (fun r st => r = .tup [(AV.sl .lf (by8 (putR g h p c)) (.own 0)), (AV.sc (.int .i64 (0)))] ∧ st = []) := by
  have c1 := c_may g h p c
  rw [hm] at c1
  rw [mayR_eq, decide_eq_true_eq] at hm
  refine fnok_of_W hmix tabOK Try.func61 rfl rfl (Nat.le_of_ble_eq_true rfl) ?_
  conv => whnf
  refine c1.mono fun r st e => ?_
  obtain ⟨rfl, rfl⟩ := e
  conv => whnf
  refine (c_hashnil g hg).mono fun r st e => ?_
  obtain ⟨rfl, rfl⟩ := e
  conv => whnf
  refine ⟨false, [4, 19, 20, 21], fun τ => ∃ i : Nat, i ≤ 3 ∧ τ = ⟨31, [(4, (AV.sl .lf (by8 (g ++ (([h, p, c] : List Nat).take i).flatMap num)) (.own 0))), (19, .sl .lf [(AV.sc (.int .i64 ((h : Int)))), (AV.sc (.int .i64 ((p : Int)))), (AV.sc (.int .i64 ((c : Int))))] .ex), (20, (AV.sc (.int .i64 (3)))), (21, (AV.sc (.int .i64 ((i : Int)))))], ⟨[(.st [.ar 32 .lf (by8 g), (AV.sc (.int .i64 ((h : Int)))), (AV.sc (.int .i64 ((p : Int)))), (AV.sc (.int .i64 ((c : Int))))], false)], [0], 1⟩⟩, fun τ => 3 - (slotI τ 21).toNat, ?_, ?_⟩
  · conv => whnf
    exact ⟨0, by omega, by rw [List.take_zero, List.flatMap_nil, List.append_nil]; rfl⟩
  · rintro τ ⟨i, hi, rfl⟩
    have hat : ∀ (hi : i < 3), ([(AV.sc (.int .i64 ((h : Int)))), (AV.sc (.int .i64 ((p : Int)))), (AV.sc (.int .i64 ((c : Int))))] : List AV)[((i : Nat) : Int).toNat]? = some ((AV.sc (.int .i64 (((([h, p, c] : List Nat)[i] : Nat) : Int))))) := by
      intro hi
      rw [Int.toNat_natCast]
      match i, hi with
      | 0, _ => rfl
      | 1, _ => rfl
      | 2, _ => rfl
    have hls : ∀ (hi : i < 3), ([h, p, c] : List Nat).take (i + 1) = ([h, p, c] : List Nat).take i ++ [([h, p, c] : List Nat)[i]] := fun hi => List.take_succ_eq_append_getElem (by simpa using hi)
    have hle : ∀ (hi : i < 3), ([h, p, c] : List Nat)[i] < 1099511627777 := by
      intro hi
      match i, hi with
      | 0, _ => show h < _; omega
      | 1, _ => show p < _; omega
      | 2, _ => show c < _; omega
    have hlen : ((([h, p, c] : List Nat).take i).flatMap num).length ≤ 30 := by
      have h1 := num_ten (n := h) (by omega)
      have h2 := num_ten (n := p) (by omega)
      have h3 := num_ten (n := c) (by omega)
      match i, hi with
      | 0, _ => simp
      | 1, _ => simp; omega
      | 2, _ => simp; omega
      | 3, _ => simp; omega
    conv => whnf
    refine Branch.of (fun h3 => ?_) (fun h3 => ?_) <;> rw [h3] <;> conv => whnf
    · simp only [decide_eq_true_eq] at h3
      have hi3 : i < 3 := by omega
      refine ⟨by omega, _, hat hi3, ?_⟩
      have hls := hls hi3
      have hle := hle hi3
      generalize ([h, p, c] : List Nat)[i] = k at hls hle
      conv => whnf
      rw [wu64 (x := ((k : Nat) : Int)) (by omega) (by omega)]
      refine (c_num _ k (by rw [List.length_append]; omega) (by omega) (.inr rfl)).mono fun r st e => ?_
      obtain ⟨rfl, rfl⟩ := e
      conv => whnf
      rw [w64 (x := (i : Int) + 1) (by omega) (by omega)]
      refine ⟨⟨i + 1, by omega, ?_⟩, ?_⟩
      · rw [hls, List.flatMap_append, List.append_assoc]
        simp
      · show 3 - ((i : Int) + 1).toNat < 3 - (i : Int).toNat
        omega
    · simp only [decide_eq_false_iff_not] at h3
      have e : i = 3 := by omega
      subst e
      refine ⟨false, [], ?_⟩
      conv => whnf
      refine ⟨?_, rfl⟩
      congr 4
      simp [putR]
theorem num_one {n : Nat} (h : n < 128) : num n = [UInt8.ofNat n] := num_low h
theorem c_refbytes (g : List UInt8) (h p c : Nat) (hg : g.length = 32) (hm : mayR h p c = true) : FnOK Try.prog D 63 [.st [.ar 32 .lf (by8 g), (AV.sc (.int .i64 ((h : Int)))), (AV.sc (.int .i64 ((p : Int)))), (AV.sc (.int .i64 ((c : Int))))]] [] (fun r st => r = (AV.sl .lf (by8 (putR g h p c)) (.own 0)) ∧ st = []) := by
  rw [mayR_eq, decide_eq_true_eq] at hm
  refine fnok_of_W hmix tabOK Try.func63 rfl rfl (Nat.le_of_ble_eq_true rfl) ?_
  conv => whnf
  refine ⟨tab_63_1, by decide +kernel, ?_⟩
  conv => whnf
  refine ⟨_, _, c_hbytes g hg, ?_⟩
  conv => whnf
  rw [wu64 (x := ((h : Nat) : Int)) (by omega) (by omega)]
  refine ⟨_, _, c_refnum h (by omega), ?_⟩
  conv => whnf
  have h1 := num_ten (n := h) (by omega)
  refine ⟨by rw [len8, len8]; omega, ?_⟩
  conv => whnf
  rw [by8_app]
  refine ⟨by rw [len8]; simp; omega, ?_⟩
  conv => whnf
  rw [w8n (n := p) (by omega), w8n (n := c) (by omega)]
  have e2 : by8 (g ++ num h) ++ [AV.sc (.int .u8 ((p : Nat) : Int)), AV.sc (.int .u8 ((c : Nat) : Int))] = by8 (putR g h p c) := by
    rw [sc8 (n := p) (by omega), sc8 (n := c) (by omega), putR, num_one (n := p) (by omega), num_one (n := c) (by omega)]
    simp [by8]
  rw [e2]
  refine ⟨false, [], ?_⟩
  conv => whnf
  exact ⟨rfl, rfl⟩
end Go.WL.T1
namespace Go.WL.T1
open Go.WL Go.Proofs
set_option maxRecDepth 20000
set_option maxHeartbeats 8000000
theorem fupto_rupto (B : List UInt8) (at_ : Nat) (w : Bool) (top : Int) : rupto (B.drop at_) w top = ((fupto B at_ w top).1, B.drop (fupto B at_ w top).2.1, (fupto B at_ w top).2.2) := by
  unfold rupto fupto
  cases w with
  | true =>
    have : (fnum B at_ true).2.2 = true := by unfold fnum; simp
    simp [this]
  | false =>
    rw [fnum_rnum B at_ false]
    simp only [Bool.false_eq_true, false_or]
    split
    · rfl
    · rfl
theorem ftext_rtext (B : List UInt8) (at_ : Nat) (w : Bool) : rtext (B.drop at_) w = ((ftext B at_ w).1, B.drop (ftext B at_ w).2.1, (ftext B at_ w).2.2) := by
  unfold rtext ftext
  cases w with
  | true =>
    have : (fupto B at_ true 65536).2.2 = true := by
      have h : (fnum B at_ true).2.2 = true := by unfold fnum; simp
      unfold fupto
      simp [h]
    simp [this]
  | false =>
    rw [fupto_rupto B at_ false]
    simp only [Bool.false_eq_true, false_or, List.length_drop]
    split
    · rfl
    · simp [List.drop_drop]
theorem fhash_rhash (B : List UInt8) (at_ : Nat) (w : Bool) : rhash (B.drop at_) w = ((fhash B at_ w).1, B.drop (fhash B at_ w).2.1, (fhash B at_ w).2.2) := by
  unfold rhash fhash
  simp only [List.length_drop]
  split
  · rfl
  · simp [List.drop_drop]
theorem ftext_at (B : List UInt8) (at_ : Nat) (w : Bool) (h : at_ ≤ B.length) : (ftext B at_ w).2.1 ≤ B.length := by
  have := fupto_at B at_ w 65536 h
  unfold ftext
  split
  · exact h
  · rename_i c
    show _ + _ ≤ _
    omega
theorem fhash_at (B : List UInt8) (at_ : Nat) (w : Bool) (h : at_ ≤ B.length) : (fhash B at_ w).2.1 ≤ B.length := by
  unfold fhash
  split
  · exact h
  · rename_i c
    show _ + _ ≤ _
    omega
theorem ftext_len (B : List UInt8) (at_ : Nat) (w : Bool) : (ftext B at_ w).1.length ≤ B.length := by
  unfold ftext
  split
  · simp
  · simp; omega
theorem empty_at (B : List UInt8) (a : Nat) (h : a ≤ B.length) : (B.drop a).isEmpty = (((a : Nat) : Int) == ((B.length : Nat) : Int)) := by
  by_cases e : a = B.length
  · subst e; simp
  · have h1 : (((a : Nat) : Int) == ((B.length : Nat) : Int)) = false := by simp; omega
    rw [h1]
    cases hd : B.drop a with
    | nil =>
      have := congrArg List.length hd
      simp at this
      omega
    | cons x l => rfl
end Go.WL.T1
namespace Go.WL.T1
open Go.WL Go.Proofs
set_option maxRecDepth 20000
set_option maxHeartbeats 8000000
/-- The receipt that bytes are: its parts, and whether there is one. -/
def getF (B : List UInt8) : List UInt8 × Nat × Nat × Nat × Bool :=
  let x1 := fhash B 0 false
  let x2 := fupto B x1.2.1 x1.2.2 1099511627776
  let x3 := fupto B x2.2.1 x2.2.2 7
  let x4 := fupto B x3.2.1 x3.2.2 20
  if x4.2.2 = false ∧ x4.2.1 = B.length ∧ mayR x2.1 x3.1 x4.1 = true then (x1.1, x2.1, x3.1, x4.1, true) else (List.replicate 32 0, 0, 0, 0, false)
def cod (b : Bool) : Int := if b then 0 else 2
theorem fupto_w (B : List UInt8) (a : Nat) (top : Int) : (fupto B a true top).2.2 = true := by
  have h : (fnum B a true).2.2 = true := by unfold fnum; simp
  unfold fupto
  simp [h]
theorem c_get (B : List UInt8) (hB : B.length < 3000000) : FnOK Try.prog D 59 [(AV.sl .lf (by8 (B)) .ro)] [] (fun r st => r = .tup [.st [.ar 32 .lf (by8 (getF B).1), (AV.sc (.int .i64 (((getF B).2.1 : Int)))), (AV.sc (.int .i64 (((getF B).2.2.1 : Int)))), (AV.sc (.int .i64 (((getF B).2.2.2.1 : Int))))], (AV.sc (.int .i64 (cod (getF B).2.2.2.2)))] ∧ st = []) := by
  have c1 := c_rhash B false (by omega)
  have k1 := fhash_rhash B 0 false
  have a1 := fhash_at B 0 false (by omega)
  rw [List.drop_zero] at k1
  rw [k1] at c1
  obtain ⟨G, hg⟩ : ∃ G, G = getF B := ⟨_, rfl⟩
  rw [← hg]
  unfold getF at hg
  simp only at hg
  generalize fhash B 0 false = x1 at c1 a1 hg
  obtain ⟨g, p1, w1⟩ := x1
  simp only at c1 a1 hg
  have c2 := c_upto (B.drop p1) w1 1099511627776 (by decide) (by simp; omega)
  have a2 := fupto_at B p1 w1 1099511627776 a1
  rw [fupto_rupto] at c2
  generalize fupto B p1 w1 1099511627776 = x2 at c2 a2 hg
  obtain ⟨h, p2, w2⟩ := x2
  simp only at c2 a2 hg
  have c3 := c_upto (B.drop p2) w2 7 (by decide) (by simp; omega)
  have a3 := fupto_at B p2 w2 7 a2
  rw [fupto_rupto] at c3
  generalize fupto B p2 w2 7 = x3 at c3 a3 hg
  obtain ⟨p, p3, w3⟩ := x3
  simp only at c3 a3 hg
  have c4 := c_upto (B.drop p3) w3 20 (by decide) (by simp; omega)
  have a4 := fupto_at B p3 w3 20 a3
  rw [fupto_rupto] at c4
  generalize fupto B p3 w3 20 = x4 at c4 a4 hg
  obtain ⟨c, p4, w4⟩ := x4
  simp only at c4 a4 hg
  refine fnok_of_W hmix tabOK Try.func59 rfl rfl (Nat.le_of_ble_eq_true rfl) ?_
  conv => whnf
  refine (c_read0 B (by omega)).mono fun r st e => ?_
  obtain ⟨rfl, rfl⟩ := e
  conv => whnf
  refine c1.mono fun r st e => ?_
  obtain ⟨rfl, rfl⟩ := e
  conv => whnf
  refine c2.mono fun r st e => ?_
  obtain ⟨rfl, rfl⟩ := e
  conv => whnf
  refine c3.mono fun r st e => ?_
  obtain ⟨rfl, rfl⟩ := e
  conv => whnf
  refine c4.mono fun r st e => ?_
  obtain ⟨rfl, rfl⟩ := e
  conv => whnf
  cases w4 with
  | true =>
    have c5 := c_done (B.drop p4) true
    rw [Bool.not_true, Bool.false_and] at c5
    refine c5.mono fun r st e => ?_
    obtain ⟨rfl, rfl⟩ := e
    conv => whnf
    rw [if_neg (by simp)] at hg
    subst hg
    refine ⟨false, [], ?_⟩
    conv => whnf
    exact ⟨rfl, rfl⟩
  | false =>
    have c5 := c_done (B.drop p4) false
    rw [Bool.not_false, Bool.true_and, empty_at B p4 a4] at c5
    by_cases e4 : p4 = B.length
    · rw [show ((((p4 : Nat) : Int) == ((B.length : Nat) : Int))) = true by rw [e4]; exact beq_self_eq_true _] at c5
      refine c5.mono fun r st e => ?_
      obtain ⟨rfl, rfl⟩ := e
      conv => whnf
      have c6 := c_may g h p c
      cases hmay : mayR h p c with
      | true =>
        rw [hmay] at c6
        refine c6.mono fun r st e => ?_
        obtain ⟨rfl, rfl⟩ := e
        conv => whnf
        rw [if_pos ⟨rfl, e4, hmay⟩] at hg
        subst hg
        refine ⟨false, [], ?_⟩
        conv => whnf
        exact ⟨rfl, rfl⟩
      | false =>
        rw [hmay] at c6
        refine c6.mono fun r st e => ?_
        obtain ⟨rfl, rfl⟩ := e
        conv => whnf
        rw [if_neg (by simp [hmay])] at hg
        subst hg
        refine ⟨false, [], ?_⟩
        conv => whnf
        exact ⟨rfl, rfl⟩
    · rw [show ((((p4 : Nat) : Int) == ((B.length : Nat) : Int))) = false by rw [beq_eq_false_iff_ne]; omega] at c5
      refine c5.mono fun r st e => ?_
      obtain ⟨rfl, rfl⟩ := e
      conv => whnf
      rw [if_neg (by simp [e4])] at hg
      subst hg
      refine ⟨false, [], ?_⟩
      conv => whnf
      exact ⟨rfl, rfl⟩
theorem c_refget (B : List UInt8) (hB : B.length < 3000000) : FnOK Try.prog D 60 [(AV.sl .lf (by8 (B)) .ro)] [] (fun r st => r = .tup [.st [.ar 32 .lf (by8 (getF B).1), (AV.sc (.int .i64 (((getF B).2.1 : Int)))), (AV.sc (.int .i64 (((getF B).2.2.1 : Int)))), (AV.sc (.int .i64 (((getF B).2.2.2.1 : Int))))], (AV.sc (.bool ((getF B).2.2.2.2)))] ∧ st = []) := by
  have c1 := c_readhash B 0 false (by omega) (by omega)
  have a1 := fhash_at B 0 false (by omega)
  obtain ⟨G, hg⟩ : ∃ G, G = getF B := ⟨_, rfl⟩
  rw [← hg]
  unfold getF at hg
  simp only at hg
  generalize fhash B 0 false = x1 at c1 a1 hg
  obtain ⟨g, p1, w1⟩ := x1
  simp only at c1 a1 hg
  have c2 := c_readupto B p1 w1 1099511627776 (by decide) (by omega) a1
  have a2 := fupto_at B p1 w1 1099511627776 a1
  generalize fupto B p1 w1 1099511627776 = x2 at c2 a2 hg
  obtain ⟨h, p2, w2⟩ := x2
  simp only at c2 a2 hg
  have c3 := c_readupto B p2 w2 7 (by decide) (by omega) a2
  have a3 := fupto_at B p2 w2 7 a2
  generalize fupto B p2 w2 7 = x3 at c3 a3 hg
  obtain ⟨p, p3, w3⟩ := x3
  simp only at c3 a3 hg
  have c4 := c_readupto B p3 w3 20 (by decide) (by omega) a3
  have a4 := fupto_at B p3 w3 20 a3
  generalize fupto B p3 w3 20 = x4 at c4 a4 hg
  obtain ⟨c, p4, w4⟩ := x4
  simp only at c4 a4 hg
  refine fnok_of_W hmix tabOK Try.func60 rfl rfl (Nat.le_of_ble_eq_true rfl) ?_
  conv => whnf
  refine c1.mono fun r st e => ?_
  obtain ⟨rfl, rfl⟩ := e
  conv => whnf
  refine c2.mono fun r st e => ?_
  obtain ⟨rfl, rfl⟩ := e
  conv => whnf
  refine c3.mono fun r st e => ?_
  obtain ⟨rfl, rfl⟩ := e
  conv => whnf
  refine c4.mono fun r st e => ?_
  obtain ⟨rfl, rfl⟩ := e
  cases w4 with
  | true =>
    conv => whnf
    rw [if_neg (by simp)] at hg
    subst hg
    refine ⟨false, [], ?_⟩
    conv => whnf
    exact ⟨rfl, rfl⟩
  | false =>
    conv => whnf
    rw [len8]
    by_cases e4 : p4 = B.length
    · rw [show ((((p4 : Nat) : Int) != ((B.length : Nat) : Int))) = false by rw [e4]; exact bne_self_eq_false _]
      conv => whnf
      have c6 := c_refmay g h p c
      cases hmay : mayR h p c with
      | true =>
        rw [hmay] at c6
        refine c6.mono fun r st e => ?_
        obtain ⟨rfl, rfl⟩ := e
        conv => whnf
        rw [if_pos ⟨rfl, e4, hmay⟩] at hg
        subst hg
        refine ⟨false, [], ?_⟩
        conv => whnf
        exact ⟨rfl, rfl⟩
      | false =>
        rw [hmay] at c6
        refine c6.mono fun r st e => ?_
        obtain ⟨rfl, rfl⟩ := e
        conv => whnf
        rw [if_neg (by simp [hmay])] at hg
        subst hg
        refine ⟨false, [], ?_⟩
        conv => whnf
        exact ⟨rfl, rfl⟩
    · rw [show ((((p4 : Nat) : Int) != ((B.length : Nat) : Int))) = true by rw [bne_iff_ne]; omega]
      conv => whnf
      rw [if_neg (by simp [e4])] at hg
      subst hg
      refine ⟨false, [], ?_⟩
      conv => whnf
      exact ⟨rfl, rfl⟩
end Go.WL.T1
namespace Go.WL.T1
open Go.WL Go.Proofs
set_option maxRecDepth 20000
set_option maxHeartbeats 8000000
theorem fupto_num {B rest : List UInt8} {a n : Nat} {top : Int} (h : B.drop a = num n ++ rest) (hn : n < 18446744073709551616) (ht : (n : Int) ≤ top) : fupto B a false top = (n, a + (num n).length, false) := by
  have hr := rdn_num rest n 0 0 (by omega) (by omega) (.inl rfl)
  have hp := num_pos n
  rw [Nat.zero_add, Nat.zero_add, Nat.pow_zero, Nat.mul_one] at hr
  have hf : fnum B a false = (n, a + (num n).length, false) := by
    unfold fnum
    rw [h, hr, if_neg (by simp only [Bool.false_eq_true, false_or]; omega)]
  unfold fupto
  rw [hf, if_neg (by simp; omega)]
theorem getF_put (g : List UInt8) (h p c : Nat) (hg : g.length = 32) (hm : mayR h p c = true) : getF (putR g h p c) = (g, h, p, c, true) := by
  have hm2 := hm
  rw [mayR_eq, decide_eq_true_eq] at hm2
  have d1 : (putR g h p c).drop 32 = num h ++ (num p ++ num c) := by
    rw [putR, ← hg]
    simp
  have d2 : (putR g h p c).drop (32 + (num h).length) = num p ++ num c := by
    rw [← List.drop_drop, d1]
    simp
  have d3 : (putR g h p c).drop (32 + (num h).length + (num p).length) = num c ++ [] := by
    rw [← List.drop_drop, d2]
    simp
  have f1 : fhash (putR g h p c) 0 false = (g, 32, false) := by
    unfold fhash
    rw [if_neg (by simp [putR, hg]), List.drop_zero]
    congr 1
    rw [putR, ← hg]
    simp
  unfold getF
  simp only [f1, fupto_num (top := 1099511627776) d1 (by omega) (by omega), fupto_num (top := 7) d2 (by omega) (by omega), fupto_num (top := 20) d3 (by omega) (by omega)]
  rw [if_pos ⟨trivial, by simp [putR, hg]; omega, hm⟩]
theorem putR_len (g : List UInt8) (h p c : Nat) (hg : g.length = 32) (hm : mayR h p c = true) : (putR g h p c).length ≤ 62 := by
  rw [mayR_eq, decide_eq_true_eq] at hm
  have h1 := num_ten (n := h) (by omega)
  have h2 := num_ten (n := p) (by omega)
  have h3 := num_ten (n := c) (by omega)
  simp [putR]
  omega
theorem c_rawake : FnOK Try.prog D 58 [] [] (fun r st => r = (AV.sc (.bool (true))) ∧ st = []) := by
  have hm : mayR ((1 : Nat) : Int) ((0 : Nat) : Int) ((0 : Nat) : Int) = true := by rw [mayR_eq]; decide
  have c1 := c_put_yes (List.replicate 32 0) 1 0 0 (by simp) hm
  have c2 := c_get (putR (List.replicate 32 0) 1 0 0) (by have := putR_len (List.replicate 32 0) 1 0 0 (by simp) hm; omega)
  rw [getF_put _ 1 0 0 (by simp) hm] at c2
  have hl : (putR (List.replicate 32 0) 1 0 0).length = 35 := by
    rw [putR, num_low (by decide), num_low (by decide)]
    simp
  generalize putR (List.replicate 32 0) 1 0 0 = q at c1 c2 hl
  simp only at c2
  refine fnok_of_W hmix tabOK Try.func58 rfl rfl (Nat.le_of_ble_eq_true rfl) ?_
  conv => whnf
  refine c1.mono fun r st e => ?_
  obtain ⟨rfl, rfl⟩ := e
  conv => whnf
  refine c2.mono fun r st e => ?_
  obtain ⟨rfl, rfl⟩ := e
  conv => whnf
  rw [len8, hl]
  conv => whnf
  refine ⟨false, [], ?_⟩
  conv => whnf
  exact ⟨rfl, rfl⟩
theorem c_rlaw (g B : List UInt8) (h p c : Int) (hg : g.length = 32) : FnOK Try.prog D 14 [.st [.ar 32 .lf (by8 g), (AV.sc (.int .i64 (h))), (AV.sc (.int .i64 (p))), (AV.sc (.int .i64 (c)))], (AV.sl .lf (by8 (B)) .ro)] [] (fun r _ => r = (AV.sc (.bool (true)))) := by
  refine fnok_of_W hmix tabOK Try.func14 rfl rfl (Nat.le_of_ble_eq_true rfl) ?_
  conv => whnf
  rw [len8]
  refine Branch.of (fun h1 => ?_) (fun h1 => ?_) <;> rw [h1] <;> conv => whnf
  · refine (c_rawake).mono fun r st e => ?_
    obtain ⟨rfl, rfl⟩ := e
    conv => whnf
    refine ⟨false, [], ?_⟩
    conv => whnf
  simp only [gt_iff_lt, decide_eq_false_iff_not] at h1
  have c1 := c_get B (by omega)
  have c2 := c_refget B (by omega)
  generalize getF B = x at c1 c2
  obtain ⟨G, H, P, C, ok⟩ := x
  simp only at c1 c2
  refine c1.mono fun r st e => ?_
  obtain ⟨rfl, rfl⟩ := e
  conv => whnf
  refine c2.mono fun r st e => ?_
  obtain ⟨rfl, rfl⟩ := e
  conv => whnf
  refine ⟨G, G, rfl, rfl, ?_⟩
  conv => whnf
  rw [show (!(G == G && (((H : Nat) : Int) == ((H : Nat) : Int) && (((P : Nat) : Int) == ((P : Nat) : Int) && (((C : Nat) : Int) == ((C : Nat) : Int) && true))))) = false by simp]
  have tail : ∀ ok : Bool, (!((cod ok == 0) == ok)) = false ∧ (!((cod ok == 2) == (!ok))) = false := by intro ok; cases ok <;> exact ⟨rfl, rfl⟩
  conv => whnf
  rw [(tail ok).1]
  conv => whnf
  rw [(tail ok).2]
  conv => whnf
  cases hm : mayR h p c with
  | false =>
    refine (c_put_no g h p c hm).mono fun r st e => ?_
    obtain ⟨rfl, rfl⟩ := e
    conv => whnf
    have c3 := c_refmay g h p c
    rw [hm] at c3
    refine c3.mono fun r st e => ?_
    obtain ⟨rfl, rfl⟩ := e
    conv => whnf
    refine (c_rawake).mono fun r st e => ?_
    obtain ⟨rfl, rfl⟩ := e
    conv => whnf
    refine ⟨false, [], ?_⟩
    conv => whnf
  | true =>
    have hm2 := hm
    rw [mayR_eq, decide_eq_true_eq] at hm2
    obtain ⟨h, rfl⟩ := Int.eq_ofNat_of_zero_le (show 0 ≤ h by omega)
    obtain ⟨p, rfl⟩ := Int.eq_ofNat_of_zero_le (show 0 ≤ p by omega)
    obtain ⟨c, rfl⟩ := Int.eq_ofNat_of_zero_le (show 0 ≤ c by omega)
    have c4 := c_put_yes g h p c hg hm
    have hql := putR_len g h p c hg hm
    have c5 := c_get (putR g h p c) (by omega)
    rw [getF_put g h p c hg hm] at c5
    have c6 := c_refbytes g h p c hg hm
    generalize putR g h p c = q at c4 c5 c6 hql
    simp only at c5
    refine c4.mono fun r st e => ?_
    obtain ⟨rfl, rfl⟩ := e
    conv => whnf
    have c3 := c_refmay g h p c
    rw [hm] at c3
    refine c3.mono fun r st e => ?_
    obtain ⟨rfl, rfl⟩ := e
    conv => whnf
    refine c5.mono fun r st e => ?_
    obtain ⟨rfl, rfl⟩ := e
    conv => whnf
    refine c6.mono fun r st e => ?_
    obtain ⟨rfl, rfl⟩ := e
    conv => whnf
    have cs := c_same q q (by omega) (m1 := .ro) (m2 := .ro) (.inr rfl) (.inr rfl)
    rw [beq_self_eq_true] at cs
    refine cs.mono fun r st e => ?_
    obtain ⟨rfl, rfl⟩ := e
    conv => whnf
    refine ⟨g, g, rfl, rfl, ?_⟩
    conv => whnf
    rw [show ((g == g && (((h : Nat) : Int) == ((h : Nat) : Int) && (((p : Nat) : Int) == ((p : Nat) : Int) && (((c : Nat) : Int) == ((c : Nat) : Int) && true))))) = true by simp]
    conv => whnf
    refine (c_rawake).mono fun r st e => ?_
    obtain ⟨rfl, rfl⟩ := e
    conv => whnf
    refine ⟨false, [], ?_⟩
    conv => whnf
end Go.WL.T1
