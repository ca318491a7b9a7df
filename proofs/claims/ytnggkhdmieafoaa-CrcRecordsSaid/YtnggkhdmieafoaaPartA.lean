/- Records: the reference's, and the law of records. No condition. -/
import Derived.Test.YtnggkhdmieafoaaWordsC
import Derived.Test.YtnggkhdmieafoaaProg
set_option linter.unusedVariables false
set_option linter.unusedSimpArgs false
namespace Go.WL.T1
def tabF3R8 : List (List Nat) := [[], [], [], [1, 2], [2, 1, 3], [], [], [5, 6], [6, 5, 7], [3, 1, 2, 4, 7, 5, 6, 8], [8, 6, 5, 7, 4, 2, 1, 3, 9], [0, 9, 3, 1, 2, 4, 7, 5, 6, 8, 10], [10, 8, 6, 5, 7, 4, 2, 1, 3, 9, 0, 11]]
def tabF3R10 : List (List Nat) := [[], [0], [0, 1], [], [1, 0, 2, 3], [3, 4, 1, 0, 2], [2, 0, 1, 4, 3, 5], [2, 0, 1, 4, 3, 5], [6, 7, 2, 0, 1, 4, 3, 5], [2, 0, 1, 4, 3, 5], [2, 0, 1, 4, 3, 5], [9, 10, 2, 0, 1, 4, 3, 5], [7, 6, 8, 10, 9, 11, 2, 0, 1, 4, 3, 5], [11, 9, 10, 8, 6, 7, 12, 2, 0, 1, 4, 3, 5], [2, 0, 1, 4, 3, 5], [12, 7, 6, 8, 10, 9, 11, 13, 14, 2, 0, 1, 4, 3, 5], [5, 3, 4, 1, 0, 2, 14, 13, 11, 9, 10, 8, 6, 7, 12, 15], [15, 14, 16, 5, 3, 4, 1, 0, 2, 12, 7, 6, 8, 10, 9, 11, 13], [13, 11, 9, 10, 8, 6, 7, 12, 2, 0, 1, 4, 3, 5, 16, 14, 15, 17], [18, 13, 11, 9, 10, 8, 6, 7, 12, 2, 0, 1, 4, 3, 5, 16, 14, 15, 17], [18, 19, 13, 11, 9, 10, 8, 6, 7, 12, 2, 0, 1, 4, 3, 5, 16, 14, 15, 17], [13, 11, 9, 10, 8, 6, 7, 12, 2, 0, 1, 4, 3, 5, 16, 14, 15, 17], [13, 11, 9, 10, 8, 6, 7, 12, 2, 0, 1, 4, 3, 5, 16, 14, 15, 17], [13, 11, 9, 10, 8, 6, 7, 12, 2, 0, 1, 4, 3, 5, 16, 14, 15, 17], [23, 13, 11, 9, 10, 8, 6, 7, 12, 2, 0, 1, 4, 3, 5, 16, 14, 15, 17], [22, 23, 24, 13, 11, 9, 10, 8, 6, 7, 12, 2, 0, 1, 4, 3, 5, 16, 14, 15, 17], [24, 23, 22, 25, 13, 11, 9, 10, 8, 6, 7, 12, 2, 0, 1, 4, 3, 5, 16, 14, 15, 17], [25, 22, 23, 24, 26, 19, 18, 20, 13, 11, 9, 10, 8, 6, 7, 12, 2, 0, 1, 4, 3, 5, 16, 14, 15, 17], [21, 20, 18, 19, 26, 24, 23, 22, 25, 27, 13, 11, 9, 10, 8, 6, 7, 12, 2, 0, 1, 4, 3, 5, 16, 14, 15, 17], [27, 25, 22, 23, 24, 26, 19, 18, 20, 21, 28, 13, 11, 9, 10, 8, 6, 7, 12, 2, 0, 1, 4, 3, 5, 16, 14, 15, 17], [17, 15, 14, 16, 5, 3, 4, 1, 0, 2, 12, 7, 6, 8, 10, 9, 11, 13, 28, 21, 20, 18, 19, 26, 24, 23, 22, 25, 27, 29], [29, 21, 28, 30, 17, 15, 14, 16, 5, 3, 4, 1, 0, 2, 12, 7, 6, 8, 10, 9, 11, 13, 20, 18, 19, 26, 24, 23, 22, 25, 27], [27, 25, 22, 23, 24, 26, 19, 18, 20, 13, 11, 9, 10, 8, 6, 7, 12, 2, 0, 1, 4, 3, 5, 16, 14, 15, 17, 30, 28, 21, 29, 31], [31, 29, 21, 28, 30, 17, 15, 14, 16, 5, 3, 4, 1, 0, 2, 12, 7, 6, 8, 10, 9, 11, 13, 20, 18, 19, 26, 24, 23, 22, 25, 27, 32], [32, 27, 25, 22, 23, 24, 26, 19, 18, 20, 13, 11, 9, 10, 8, 6, 7, 12, 2, 0, 1, 4, 3, 5, 16, 14, 15, 17, 30, 28, 21, 29, 31, 33]]
def tabF4R1 : List (List Nat) := [[], [], [0, 1], [], [], [3, 4, 1, 0, 2], [2, 0, 1, 4, 3, 5], [6, 2, 0, 1, 4, 3, 5], [5, 3, 4, 1, 0, 2, 6, 7], [5, 3, 4, 1, 0, 2, 6, 7], [5, 3, 4, 1, 0, 2, 6, 7], [10, 5, 3, 4, 1, 0, 2, 6, 7], [8, 9, 10, 11, 5, 3, 4, 1, 0, 2, 6, 7], [5, 3, 4, 1, 0, 2, 6, 7], [5, 3, 4, 1, 0, 2, 6, 7], [5, 3, 4, 1, 0, 2, 6, 7], [15, 5, 3, 4, 1, 0, 2, 6, 7], [13, 14, 15, 16, 11, 10, 9, 8, 12, 5, 3, 4, 1, 0, 2, 6, 7], [12, 8, 9, 10, 11, 16, 15, 14, 13, 17, 5, 3, 4, 1, 0, 2, 6, 7], [7, 6, 2, 0, 1, 4, 3, 5, 17, 13, 14, 15, 16, 11, 10, 9, 8, 12, 18]]
def tabF4R7 : List (List Nat) := [[], [], [1], [], [], [4], [0, 1, 2, 3, 4, 5], [], [], [8], [], [], [11], [7, 8, 9, 10, 11, 12, 5, 4, 3, 2, 1, 0, 6], [6, 0, 1, 2, 3, 4, 5, 12, 11, 10, 9, 8, 7, 13], [14, 6, 0, 1, 2, 3, 4, 5, 12, 11, 10, 9, 8, 7, 13], [13, 7, 8, 9, 10, 11, 12, 5, 4, 3, 2, 1, 0, 6, 14, 15], [15, 14, 6, 0, 1, 2, 3, 4, 5, 12, 11, 10, 9, 8, 7, 13, 16], [16, 13, 7, 8, 9, 10, 11, 12, 5, 4, 3, 2, 1, 0, 6, 14, 15, 17]]
def tabF6R3 : List (List Nat) := [[], [], [1], [0, 1, 2], [], [4], [4, 5, 2, 1, 0, 3], [], [7], [7, 8, 3, 0, 1, 2, 5, 4, 6], [6, 4, 5, 2, 1, 0, 3, 8, 7, 9]]
def tabF6R4 : List (List Nat) := [[], [], [], [1, 2], [], [4, 2, 1, 3], [3, 1, 2, 4, 5], [0, 5, 4, 2, 1, 3, 6], [6, 3, 1, 2, 4, 5, 0, 7], [7, 0, 5, 4, 2, 1, 3, 6, 8], [8, 6, 3, 1, 2, 4, 5, 0, 7, 9], [9, 7, 0, 5, 4, 2, 1, 3, 6, 8, 10]]
def tabF9R9 : List (List Nat) := [[], [], [], [1, 2], [2, 1, 3], [3, 1, 2, 4], [0, 4, 2, 1, 3, 5], [], [], [7, 8], [8, 7, 9], [9, 7, 8, 10], [10, 8, 7, 9, 11, 5, 3, 1, 2, 4, 0, 6], [], [], [13, 14], [14, 13, 15], [15, 13, 14, 16], [16, 14, 13, 15, 17, 6, 0, 4, 2, 1, 3, 5, 11, 9, 7, 8, 10, 12], [12, 10, 8, 7, 9, 11, 5, 3, 1, 2, 4, 0, 6, 17, 15, 13, 14, 16, 18]]
def tabF9R14 : List (List Nat) := [[], [0], [], [], [2, 3], [3, 2, 4], [4, 2, 3, 5], [0, 1, 5, 3, 2, 4, 6], [6, 4, 2, 3, 5, 7, 0, 1], [1, 0, 7, 5, 3, 2, 4, 6, 8], [9, 1, 0, 7, 5, 3, 2, 4, 6, 8], [1, 0, 7, 5, 3, 2, 4, 6, 8], [1, 0, 7, 5, 3, 2, 4, 6, 8], [11, 12, 1, 0, 7, 5, 3, 2, 4, 6, 8], [12, 11, 13, 1, 0, 7, 5, 3, 2, 4, 6, 8], [13, 11, 12, 14, 1, 0, 7, 5, 3, 2, 4, 6, 8], [14, 12, 11, 13, 15, 9, 10, 1, 0, 7, 5, 3, 2, 4, 6, 8], [10, 9, 15, 13, 11, 12, 14, 16, 1, 0, 7, 5, 3, 2, 4, 6, 8], [8, 6, 4, 2, 3, 5, 7, 0, 1, 16, 14, 12, 11, 13, 15, 9, 10, 17], [17, 18, 8, 6, 4, 2, 3, 5, 7, 0, 1, 10, 9, 15, 13, 11, 12, 14, 16], [16, 14, 12, 11, 13, 15, 9, 10, 1, 0, 7, 5, 3, 2, 4, 6, 8, 18, 17, 19], [20, 16, 14, 12, 11, 13, 15, 9, 10, 1, 0, 7, 5, 3, 2, 4, 6, 8, 18, 17, 19], [16, 14, 12, 11, 13, 15, 9, 10, 1, 0, 7, 5, 3, 2, 4, 6, 8, 18, 17, 19], [16, 14, 12, 11, 13, 15, 9, 10, 1, 0, 7, 5, 3, 2, 4, 6, 8, 18, 17, 19], [22, 23, 16, 14, 12, 11, 13, 15, 9, 10, 1, 0, 7, 5, 3, 2, 4, 6, 8, 18, 17, 19], [23, 22, 24, 16, 14, 12, 11, 13, 15, 9, 10, 1, 0, 7, 5, 3, 2, 4, 6, 8, 18, 17, 19], [24, 22, 23, 25, 16, 14, 12, 11, 13, 15, 9, 10, 1, 0, 7, 5, 3, 2, 4, 6, 8, 18, 17, 19], [20, 21, 25, 23, 22, 24, 26, 16, 14, 12, 11, 13, 15, 9, 10, 1, 0, 7, 5, 3, 2, 4, 6, 8, 18, 17, 19], [19, 17, 18, 8, 6, 4, 2, 3, 5, 7, 0, 1, 10, 9, 15, 13, 11, 12, 14, 16, 26, 24, 22, 23, 25, 21, 20, 27]]
def tabF10R27 : List (List Nat) := [[], [0], [], [0, 1, 2], [2, 1, 0, 3]]
def tabF10R28 : List (List Nat) := [[], [0], [0, 1], [1, 0, 2], [3, 1, 0, 2], [1, 0, 2], [5, 1, 0, 2], [1, 0, 2], [7, 1, 0, 2], [5, 6, 7, 8, 1, 0, 2], [3, 4, 8, 7, 6, 5, 9, 1, 0, 2], [2, 0, 1, 9, 5, 6, 7, 8, 4, 3, 10], [10, 8, 7, 6, 5, 9, 11, 2, 0, 1, 3, 4], [4, 3, 1, 0, 2, 11, 9, 5, 6, 7, 8, 10, 12], [13, 4, 3, 1, 0, 2, 11, 9, 5, 6, 7, 8, 10, 12], [4, 3, 1, 0, 2, 11, 9, 5, 6, 7, 8, 10, 12], [15, 4, 3, 1, 0, 2, 11, 9, 5, 6, 7, 8, 10, 12], [13, 14, 15, 16, 4, 3, 1, 0, 2, 11, 9, 5, 6, 7, 8, 10, 12], [12, 10, 8, 7, 6, 5, 9, 11, 2, 0, 1, 3, 4, 16, 15, 14, 13, 17], [17, 15, 16, 18, 12, 10, 8, 7, 6, 5, 9, 11, 2, 0, 1, 3, 4, 13, 14], [14, 13, 4, 3, 1, 0, 2, 11, 9, 5, 6, 7, 8, 10, 12, 18, 16, 15, 17, 19], [20, 14, 13, 4, 3, 1, 0, 2, 11, 9, 5, 6, 7, 8, 10, 12, 18, 16, 15, 17, 19], [14, 13, 4, 3, 1, 0, 2, 11, 9, 5, 6, 7, 8, 10, 12, 18, 16, 15, 17, 19], [22, 14, 13, 4, 3, 1, 0, 2, 11, 9, 5, 6, 7, 8, 10, 12, 18, 16, 15, 17, 19], [22, 23, 14, 13, 4, 3, 1, 0, 2, 11, 9, 5, 6, 7, 8, 10, 12, 18, 16, 15, 17, 19], [23, 22, 24, 20, 21, 14, 13, 4, 3, 1, 0, 2, 11, 9, 5, 6, 7, 8, 10, 12, 18, 16, 15, 17, 19], [19, 17, 15, 16, 18, 12, 10, 8, 7, 6, 5, 9, 11, 2, 0, 1, 3, 4, 13, 14, 21, 20, 24, 22, 23, 25], [26, 19, 17, 15, 16, 18, 12, 10, 8, 7, 6, 5, 9, 11, 2, 0, 1, 3, 4, 13, 14, 21, 20, 24, 22, 23, 25], [19, 17, 15, 16, 18, 12, 10, 8, 7, 6, 5, 9, 11, 2, 0, 1, 3, 4, 13, 14, 21, 20, 24, 22, 23, 25], [28, 19, 17, 15, 16, 18, 12, 10, 8, 7, 6, 5, 9, 11, 2, 0, 1, 3, 4, 13, 14, 21, 20, 24, 22, 23, 25], [26, 27, 28, 29, 19, 17, 15, 16, 18, 12, 10, 8, 7, 6, 5, 9, 11, 2, 0, 1, 3, 4, 13, 14, 21, 20, 24, 22, 23, 25], [25, 23, 22, 24, 20, 21, 29, 28, 27, 26, 30, 14, 13, 4, 3, 1, 0, 2, 11, 9, 5, 6, 7, 8, 10, 12, 18, 16, 15, 17, 19], [30, 26, 27, 28, 29, 21, 20, 24, 22, 23, 25, 31, 14, 13, 4, 3, 1, 0, 2, 11, 9, 5, 6, 7, 8, 10, 12, 18, 16, 15, 17, 19], [19, 17, 15, 16, 18, 12, 10, 8, 7, 6, 5, 9, 11, 2, 0, 1, 3, 4, 13, 14, 31, 25, 23, 22, 24, 20, 21, 29, 28, 27, 26, 30, 32]]
def tabF11R23 : List (List Nat) := [[], [], [0, 1], [1, 0, 2], [], [], [4, 5], [5, 4, 6], [2, 0, 1, 3, 6, 4, 5, 7], [7, 5, 4, 6, 3, 1, 0, 2, 8], [9, 7, 5, 4, 6, 3, 1, 0, 2, 8], [8, 2, 0, 1, 3, 6, 4, 5, 7, 9, 10], [8, 2, 0, 1, 3, 6, 4, 5, 7, 9, 10], [11, 12, 8, 2, 0, 1, 3, 6, 4, 5, 7, 9, 10], [12, 11, 13, 8, 2, 0, 1, 3, 6, 4, 5, 7, 9, 10], [13, 11, 12, 14, 8, 2, 0, 1, 3, 6, 4, 5, 7, 9, 10], [14, 12, 11, 13, 15, 8, 2, 0, 1, 3, 6, 4, 5, 7, 9, 10], [10, 9, 7, 5, 4, 6, 3, 1, 0, 2, 8, 15, 13, 11, 12, 14, 16]]
def tabF11R33 : List (List Nat) := [[], [], [], [], [2, 3], [3, 2, 4], [4, 2, 3, 5], [1, 5, 3, 2, 4, 6], [6, 4, 2, 3, 5, 1, 7], [0, 7, 1, 5, 3, 2, 4, 6, 8], [8, 6, 4, 2, 3, 5, 1, 7, 0, 9]]
def tabF11R34 : List (List Nat) := [[], [], [], [], [2, 3], [3, 2, 4], [4, 2, 3, 5], [0, 1, 5, 3, 2, 4, 6], [], [6, 4, 2, 3, 5, 1, 0, 7, 8]]
def tabF11R40 : List (List Nat) := [[], [], [], [1, 2], [0, 2, 1, 3], [], [], [6], [5, 6, 7], [7, 6, 5, 8, 3, 1, 2, 0, 4], [4, 0, 2, 1, 3, 8, 5, 6, 7, 9]]
def tabF11R47 : List (List Nat) := [[], [], [0, 1], [1, 0, 2], [], [], [4, 5], [5, 4, 6], [6, 4, 5, 7], [2, 0, 1, 3, 7, 5, 4, 6, 8]]
def tabF27R1 : List (List Nat) := [[], [0], [], [2, 0, 1], [1, 0, 2, 3]]
def tabF30R6 : List (List Nat) := [[], [], [0, 1], [1, 0, 2], [], [], [4, 5], [5, 4, 6], [2, 0, 1, 3, 6, 4, 5, 7]]
def tabF31R1 : List (List Nat) := [[], [0], [0, 1], [], [3], [3, 4, 1, 0, 2], [2, 0, 1, 4, 3, 5], [5, 3, 4, 1, 0, 2, 6]]
def tabF33R10 : List (List Nat) := [[], [0], [], [0, 1, 2], [2, 1, 0, 3], [], [5], [5, 6, 3, 0, 1, 2, 4], [4, 2, 1, 0, 3, 6, 5, 7]]
def tabF34R3 : List (List Nat) := [[], [0], [0, 1], [1, 0, 2], [2, 0, 1, 3], [], [5], [5, 6], [6, 5, 7], [7, 5, 6, 8], [3, 1, 0, 2, 4, 8, 6, 5, 7, 9], [], [11], [11, 12], [12, 11, 13], [13, 11, 12, 14], [9, 7, 5, 6, 8, 4, 2, 0, 1, 3, 10, 14, 12, 11, 13, 15], [], [17], [17, 18], [18, 17, 19], [15, 13, 11, 12, 14, 10, 3, 1, 0, 2, 4, 8, 6, 5, 7, 9, 16, 19, 17, 18, 20], [20, 18, 17, 19, 16, 9, 7, 5, 6, 8, 4, 2, 0, 1, 3, 10, 14, 12, 11, 13, 15, 21]]
def tabF34R9 : List (List Nat) := [[], [0], [], [], [3], [2, 3, 4], [4, 3, 2, 5, 0, 1], [1, 0, 5, 2, 3, 4, 6]]
def tabF39R7 : List (List Nat) := [[], [], [1], [1, 2], [2, 1, 3], [0, 3, 1, 2, 4]]
def tabF41R11 : List (List Nat) := [[], [0], [], [2], [], [4], [], [6], [], [6, 7, 8], [8, 7, 6, 9], [2, 3, 4, 5, 9, 6, 7, 8, 10], [10, 8, 7, 6, 9, 5, 4, 3, 2, 11, 0, 1], [1, 0, 11, 2, 3, 4, 5, 9, 6, 7, 8, 10, 12]]
def tabF43R4 : List (List Nat) := [[], [], [0], [1, 0, 2]]
def tabF43R10 : List (List Nat) := [[], [], [0], [1, 0, 2]]
def tabF50R4 : List (List Nat) := [[], [], [0, 1], [1, 0, 2], [2, 0, 1, 3], [], [3, 1, 0, 2, 4, 5]]
def tabF51R11 : List (List Nat) := [[], [], [1], [1, 2], [2, 1, 3], [], [], [5, 6], [6, 5, 7], [3, 1, 2, 4, 7, 5, 6, 8], [0, 8, 6, 5, 7, 4, 2, 1, 3, 9], [10, 0, 8, 6, 5, 7, 4, 2, 1, 3, 9], [10, 11, 0, 8, 6, 5, 7, 4, 2, 1, 3, 9]]
def tabF53R8 : List (List Nat) := [[], [], [], [], [], [4], [], [6], [2, 3, 4, 5, 6, 7], [], [9], [1, 7, 6, 5, 4, 3, 2, 8, 9, 10], [10, 9, 8, 2, 3, 4, 5, 6, 7, 1, 11], [0, 11, 1, 9, 10, 12, 7, 6, 5, 4, 3, 2, 8], [8, 2, 3, 4, 5, 6, 7, 12, 10, 9, 1, 11, 0, 13]]
def tabF54R9 : List (List Nat) := [[], [], [1], [1, 2], [2, 1, 3], [], [5], [5, 6], [6, 5, 7], [], [9], [9, 10], [10, 9, 11], [3, 1, 2, 4, 7, 5, 6, 8, 11, 9, 10, 12], [12, 10, 9, 11, 8, 6, 5, 7, 4, 2, 1, 3, 13], [0, 13, 3, 1, 2, 4, 7, 5, 6, 8, 11, 9, 10, 12, 14], [14, 12, 10, 9, 11, 8, 6, 5, 7, 4, 2, 1, 3, 13, 0, 15]]
def tabF63R1 : List (List Nat) := [[], [0], [0, 1], [], [3], [3, 4], [4, 3, 5, 1, 0, 2], [2, 0, 1, 5, 3, 4, 6], [6, 4, 3, 5, 1, 0, 2, 7]]
def tabF71R1 : List (List Nat) := [[], [0], [0, 1], [1, 0, 2], [2, 0, 1, 3], [], [5], [5, 6], [6, 5, 7], [7, 5, 6, 8], [3, 1, 0, 2, 4, 8, 6, 5, 7, 9], [], [11], [11, 12], [12, 11, 13], [13, 11, 12, 14], [9, 7, 5, 6, 8, 4, 2, 0, 1, 3, 10, 14, 12, 11, 13, 15], [], [17], [17, 18], [18, 17, 19], [15, 13, 11, 12, 14, 10, 3, 1, 0, 2, 4, 8, 6, 5, 7, 9, 16, 19, 17, 18, 20], [20, 18, 17, 19, 16, 9, 7, 5, 6, 8, 4, 2, 0, 1, 3, 10, 14, 12, 11, 13, 15, 21]]
def tabF76R5 : List (List Nat) := [[], [], [0, 1], [], [], [3, 4], [1, 0, 2, 4, 3, 5], [5, 3, 4, 2, 0, 1, 6]]
def tabF79R6 : List (List Nat) := [[], [0], [], [0, 1, 2], [2, 1, 0, 3], [], [5], [], [5, 6, 7], [7, 6, 5, 8], [3, 0, 1, 2, 4, 8, 5, 6, 7, 9]]
def tabF80R6 : List (List Nat) := [[], [0], [], [0, 1, 2], [2, 1, 0, 3], [], [5], [], [5, 6, 7], [7, 6, 5, 8], [3, 0, 1, 2, 4, 8, 5, 6, 7, 9]]
def tabF81R6 : List (List Nat) := [[], [0], [], [0, 1, 2], [2, 1, 0, 3], [], [5], [], [5, 6, 7], [7, 6, 5, 8], [3, 0, 1, 2, 4, 8, 5, 6, 7, 9]]
def tabF84R4 : List (List Nat) := [[], [0], [], [0, 1, 2], [2, 1, 0, 3], [3, 0, 1, 2, 4], [4, 2, 1, 0, 3, 5], [5, 3, 0, 1, 2, 4, 6], [7, 5, 3, 0, 1, 2, 4, 6], [5, 3, 0, 1, 2, 4, 6], [7, 8, 9, 5, 3, 0, 1, 2, 4, 6], [9, 8, 7, 10, 5, 3, 0, 1, 2, 4, 6], [10, 7, 8, 9, 11, 5, 3, 0, 1, 2, 4, 6], [6, 4, 2, 1, 0, 3, 5, 11, 9, 8, 7, 10, 12], [12, 10, 7, 8, 9, 11, 13, 5, 3, 0, 1, 2, 4, 6], [6, 4, 2, 1, 0, 3, 5, 13, 11, 9, 8, 7, 10, 12, 14], [15, 6, 4, 2, 1, 0, 3, 5, 13, 11, 9, 8, 7, 10, 12, 14], [15, 16, 6, 4, 2, 1, 0, 3, 5, 13, 11, 9, 8, 7, 10, 12, 14], [14, 12, 10, 7, 8, 9, 11, 13, 5, 3, 0, 1, 2, 4, 6, 16, 15, 17], [18, 14, 12, 10, 7, 8, 9, 11, 13, 5, 3, 0, 1, 2, 4, 6, 16, 15, 17], [14, 12, 10, 7, 8, 9, 11, 13, 5, 3, 0, 1, 2, 4, 6, 16, 15, 17], [20, 14, 12, 10, 7, 8, 9, 11, 13, 5, 3, 0, 1, 2, 4, 6, 16, 15, 17], [18, 19, 20, 21, 14, 12, 10, 7, 8, 9, 11, 13, 5, 3, 0, 1, 2, 4, 6, 16, 15, 17], [21, 20, 19, 18, 22, 14, 12, 10, 7, 8, 9, 11, 13, 5, 3, 0, 1, 2, 4, 6, 16, 15, 17], [14, 12, 10, 7, 8, 9, 11, 13, 5, 3, 0, 1, 2, 4, 6, 16, 15, 17], [24, 14, 12, 10, 7, 8, 9, 11, 13, 5, 3, 0, 1, 2, 4, 6, 16, 15, 17], [14, 12, 10, 7, 8, 9, 11, 13, 5, 3, 0, 1, 2, 4, 6, 16, 15, 17], [24, 25, 26, 14, 12, 10, 7, 8, 9, 11, 13, 5, 3, 0, 1, 2, 4, 6, 16, 15, 17], [26, 25, 24, 27, 14, 12, 10, 7, 8, 9, 11, 13, 5, 3, 0, 1, 2, 4, 6, 16, 15, 17], [22, 18, 19, 20, 21, 23, 27, 24, 25, 26, 28, 14, 12, 10, 7, 8, 9, 11, 13, 5, 3, 0, 1, 2, 4, 6, 16, 15, 17], [17, 15, 16, 28, 26, 25, 24, 27, 23, 21, 20, 19, 18, 22, 29, 6, 4, 2, 1, 0, 3, 5, 13, 11, 9, 8, 7, 10, 12, 14], [14, 12, 10, 7, 8, 9, 11, 13, 5, 3, 0, 1, 2, 4, 6, 29, 22, 18, 19, 20, 21, 23, 27, 24, 25, 26, 28, 16, 15, 17, 30]]
def tabF95R4 : List (List Nat) := [[], [], [0, 1], [1, 0, 2], [2, 0, 1, 3], [3, 1, 0, 2, 4], [4, 2, 0, 1, 3, 5], [5, 3, 1, 0, 2, 4, 6], [5, 3, 1, 0, 2, 4, 6], [7, 8, 5, 3, 1, 0, 2, 4, 6], [8, 7, 9, 5, 3, 1, 0, 2, 4, 6], [9, 7, 8, 10, 5, 3, 1, 0, 2, 4, 6], [5, 3, 1, 0, 2, 4, 6], [10, 8, 7, 9, 11, 12, 5, 3, 1, 0, 2, 4, 6], [6, 4, 2, 0, 1, 3, 5, 12, 11, 9, 7, 8, 10, 13], [13, 10, 8, 7, 9, 11, 12, 14, 5, 3, 1, 0, 2, 4, 6], [6, 4, 2, 0, 1, 3, 5, 14, 12, 11, 9, 7, 8, 10, 13, 15], [16, 6, 4, 2, 0, 1, 3, 5, 14, 12, 11, 9, 7, 8, 10, 13, 15], [16, 17, 6, 4, 2, 0, 1, 3, 5, 14, 12, 11, 9, 7, 8, 10, 13, 15], [15, 13, 10, 8, 7, 9, 11, 12, 14, 5, 3, 1, 0, 2, 4, 6, 17, 16, 18], [15, 13, 10, 8, 7, 9, 11, 12, 14, 5, 3, 1, 0, 2, 4, 6, 17, 16, 18], [20, 15, 13, 10, 8, 7, 9, 11, 12, 14, 5, 3, 1, 0, 2, 4, 6, 17, 16, 18], [19, 20, 21, 15, 13, 10, 8, 7, 9, 11, 12, 14, 5, 3, 1, 0, 2, 4, 6, 17, 16, 18], [21, 20, 19, 22, 15, 13, 10, 8, 7, 9, 11, 12, 14, 5, 3, 1, 0, 2, 4, 6, 17, 16, 18], [22, 19, 20, 21, 23, 15, 13, 10, 8, 7, 9, 11, 12, 14, 5, 3, 1, 0, 2, 4, 6, 17, 16, 18], [15, 13, 10, 8, 7, 9, 11, 12, 14, 5, 3, 1, 0, 2, 4, 6, 17, 16, 18], [15, 13, 10, 8, 7, 9, 11, 12, 14, 5, 3, 1, 0, 2, 4, 6, 17, 16, 18], [25, 26, 15, 13, 10, 8, 7, 9, 11, 12, 14, 5, 3, 1, 0, 2, 4, 6, 17, 16, 18], [26, 25, 27, 15, 13, 10, 8, 7, 9, 11, 12, 14, 5, 3, 1, 0, 2, 4, 6, 17, 16, 18], [27, 25, 26, 28, 15, 13, 10, 8, 7, 9, 11, 12, 14, 5, 3, 1, 0, 2, 4, 6, 17, 16, 18], [23, 21, 20, 19, 22, 24, 28, 26, 25, 27, 29, 15, 13, 10, 8, 7, 9, 11, 12, 14, 5, 3, 1, 0, 2, 4, 6, 17, 16, 18], [18, 16, 17, 29, 27, 25, 26, 28, 24, 22, 19, 20, 21, 23, 30, 6, 4, 2, 0, 1, 3, 5, 14, 12, 11, 9, 7, 8, 10, 13, 15], [15, 13, 10, 8, 7, 9, 11, 12, 14, 5, 3, 1, 0, 2, 4, 6, 30, 23, 21, 20, 19, 22, 24, 28, 26, 25, 27, 29, 17, 16, 18, 31]]
end Go.WL.T1
namespace Go.WL.T1
open Go.WL Go.Proofs
def tab : List (Nat × TI) := [
  (2, { k := .int .i64, sh := .lf, bytes := 8, zero := .sc (.int .i64 0) }),
  (3, { k := .int .i64, sh := .lf, bytes := 8, zero := .sc (.int .i64 0) }),
  (4, { k := .bool, sh := .lf, bytes := 1, zero := .sc (.bool false) }),
  (5, { k := .int .u8, sh := .lf, bytes := 1, zero := .sc (.int .u8 0) }),
  (9, { k := .str, sh := .lf, bytes := 16, zero := .sc (.string .empty) }),
  (12, { k := .int .u64, sh := .lf, bytes := 8, zero := .sc (.int .u64 0) }),
  (21, { k := .int .i32, sh := .lf, bytes := 4, zero := .sc (.int .i32 0) }),
  (22, { k := .slice 5, sh := .lf, bytes := 24, zero := .sl (.lf) [] .ex }),
  (23, { k := .int .u16, sh := .lf, bytes := 2, zero := .sc (.int .u16 0) }),
  (25, { k := .int .u32, sh := .lf, bytes := 4, zero := .sc (.int .u32 0) }),
  (29, { k := .strct [(3, 0), (3, 1)], sh := .nd [.lf, .lf], bytes := 16, zero := .st [.sc (.int .i64 0), .sc (.int .i64 0)] }),
  (30, { k := .strct [(3, 0), (3, 1)], sh := .nd [.lf, .lf], bytes := 16, zero := .st [.sc (.int .i64 0), .sc (.int .i64 0)] }),
  (35, { k := .slice 3, sh := .lf, bytes := 24, zero := .sl (.lf) [] .ex }),
  (37, { k := .arr 22 4, sh := .ar 22 (.lf), bytes := 22, zero := .ar 22 (.lf) (List.replicate 22 (.sc (.bool false))) }),
  (39, { k := .int .u64, sh := .lf, bytes := 8, zero := .sc (.int .u64 0) }),
  (40, { k := .arr 32 5, sh := .ar 32 (.lf), bytes := 32, zero := .ar 32 (.lf) (List.replicate 32 (.sc (.int .u8 0))) }),
  (41, { k := .arr 32 5, sh := .ar 32 (.lf), bytes := 32, zero := .ar 32 (.lf) (List.replicate 32 (.sc (.int .u8 0))) }),
  (42, { k := .strct [(39, 0), (22, 1), (41, 2)], sh := .nd [.lf, .lf, .ar 32 (.lf)], bytes := 64, zero := .st [.sc (.int .u64 0), .sl (.lf) [] .ex, .ar 32 (.lf) (List.replicate 32 (.sc (.int .u8 0)))] }),
  (43, { k := .strct [(39, 0), (22, 1), (41, 2)], sh := .nd [.lf, .lf, .ar 32 (.lf)], bytes := 64, zero := .st [.sc (.int .u64 0), .sl (.lf) [] .ex, .ar 32 (.lf) (List.replicate 32 (.sc (.int .u8 0)))] }),
  (50, { k := .int .i64, sh := .lf, bytes := 8, zero := .sc (.int .i64 0) }),
  (58, { k := .int .u64, sh := .lf, bytes := 8, zero := .sc (.int .u64 0) }),
  (60, { k := .slice 43, sh := .lf, bytes := 24, zero := .sl (.nd [.lf, .lf, .ar 32 (.lf)]) [] .ex }),
  (61, { k := .ptr 135, sh := .lf, bytes := 8, zero := .sc (.pointer none) }),
  (67, { k := .strct [(22, 0), (3, 1), (4, 2)], sh := .nd [.lf, .lf, .lf], bytes := 40, zero := .st [.sl (.lf) [] .ex, .sc (.int .i64 0), .sc (.bool false)] }),
  (68, { k := .strct [(22, 0), (3, 1), (4, 2)], sh := .nd [.lf, .lf, .lf], bytes := 40, zero := .st [.sl (.lf) [] .ex, .sc (.int .i64 0), .sc (.bool false)] }),
  (79, { k := .slice 85, sh := .lf, bytes := 24, zero := .sl (.nd [.lf, .lf, .lf]) [] .ex }),
  (80, { k := .ptr 116, sh := .lf, bytes := 8, zero := .sc (.pointer none) }),
  (83, { k := .slice 88, sh := .lf, bytes := 24, zero := .sl (.nd [.ar 32 (.lf), .lf, .lf, .lf]) [] .ex }),
  (84, { k := .strct [(3, 0), (5, 1), (3, 2)], sh := .nd [.lf, .lf, .lf], bytes := 24, zero := .st [.sc (.int .i64 0), .sc (.int .u8 0), .sc (.int .i64 0)] }),
  (85, { k := .strct [(3, 0), (5, 1), (3, 2)], sh := .nd [.lf, .lf, .lf], bytes := 24, zero := .st [.sc (.int .i64 0), .sc (.int .u8 0), .sc (.int .i64 0)] }),
  (87, { k := .strct [(41, 0), (3, 32), (3, 33), (3, 34)], sh := .nd [.ar 32 (.lf), .lf, .lf, .lf], bytes := 56, zero := .st [.ar 32 (.lf) (List.replicate 32 (.sc (.int .u8 0))), .sc (.int .i64 0), .sc (.int .i64 0), .sc (.int .i64 0)] }),
  (88, { k := .strct [(41, 0), (3, 32), (3, 33), (3, 34)], sh := .nd [.ar 32 (.lf), .lf, .lf, .lf], bytes := 56, zero := .st [.ar 32 (.lf) (List.replicate 32 (.sc (.int .u8 0))), .sc (.int .i64 0), .sc (.int .i64 0), .sc (.int .i64 0)] }),
  (91, { k := .slice 109, sh := .lf, bytes := 24, zero := .sl (.nd [.lf, .lf, .lf, .nd [.lf, .lf, .lf, .lf, .ar 32 (.lf), .lf, .ar 32 (.lf), .ar 32 (.lf)], .nd [.nd [.lf, .lf, .lf, .lf, .ar 32 (.lf), .lf, .ar 32 (.lf), .ar 32 (.lf)], .lf], .nd [.lf, .lf, .lf, .ar 32 (.lf), .lf, .ar 32 (.lf)], .nd [.ar 32 (.lf), .lf, .lf, .lf, .lf], .ar 32 (.lf), .nd [.lf, .lf, .lf, .lf, .lf, .lf, .lf]]) [] .ex }),
  (96, { k := .strct [(3, 0), (3, 1), (3, 2), (3, 3), (41, 4), (3, 36), (41, 37), (41, 69)], sh := .nd [.lf, .lf, .lf, .lf, .ar 32 (.lf), .lf, .ar 32 (.lf), .ar 32 (.lf)], bytes := 136, zero := .st [.sc (.int .i64 0), .sc (.int .i64 0), .sc (.int .i64 0), .sc (.int .i64 0), .ar 32 (.lf) (List.replicate 32 (.sc (.int .u8 0))), .sc (.int .i64 0), .ar 32 (.lf) (List.replicate 32 (.sc (.int .u8 0))), .ar 32 (.lf) (List.replicate 32 (.sc (.int .u8 0)))] }),
  (97, { k := .strct [(3, 0), (3, 1), (3, 2), (3, 3), (41, 4), (3, 36), (41, 37), (41, 69)], sh := .nd [.lf, .lf, .lf, .lf, .ar 32 (.lf), .lf, .ar 32 (.lf), .ar 32 (.lf)], bytes := 136, zero := .st [.sc (.int .i64 0), .sc (.int .i64 0), .sc (.int .i64 0), .sc (.int .i64 0), .ar 32 (.lf) (List.replicate 32 (.sc (.int .u8 0))), .sc (.int .i64 0), .ar 32 (.lf) (List.replicate 32 (.sc (.int .u8 0))), .ar 32 (.lf) (List.replicate 32 (.sc (.int .u8 0)))] }),
  (98, { k := .slice 156, sh := .lf, bytes := 24, zero := .sl (.nd [.lf, .ar 32 (.lf)]) [] .ex }),
  (99, { k := .strct [(97, 0), (98, 101)], sh := .nd [.nd [.lf, .lf, .lf, .lf, .ar 32 (.lf), .lf, .ar 32 (.lf), .ar 32 (.lf)], .lf], bytes := 160, zero := .st [.st [.sc (.int .i64 0), .sc (.int .i64 0), .sc (.int .i64 0), .sc (.int .i64 0), .ar 32 (.lf) (List.replicate 32 (.sc (.int .u8 0))), .sc (.int .i64 0), .ar 32 (.lf) (List.replicate 32 (.sc (.int .u8 0))), .ar 32 (.lf) (List.replicate 32 (.sc (.int .u8 0)))], .sl (.nd [.lf, .ar 32 (.lf)]) [] .ex] }),
  (100, { k := .strct [(97, 0), (98, 101)], sh := .nd [.nd [.lf, .lf, .lf, .lf, .ar 32 (.lf), .lf, .ar 32 (.lf), .ar 32 (.lf)], .lf], bytes := 160, zero := .st [.st [.sc (.int .i64 0), .sc (.int .i64 0), .sc (.int .i64 0), .sc (.int .i64 0), .ar 32 (.lf) (List.replicate 32 (.sc (.int .u8 0))), .sc (.int .i64 0), .ar 32 (.lf) (List.replicate 32 (.sc (.int .u8 0))), .ar 32 (.lf) (List.replicate 32 (.sc (.int .u8 0)))], .sl (.nd [.lf, .ar 32 (.lf)]) [] .ex] }),
  (101, { k := .strct [(3, 0), (3, 1), (3, 2), (41, 3), (35, 35), (41, 36)], sh := .nd [.lf, .lf, .lf, .ar 32 (.lf), .lf, .ar 32 (.lf)], bytes := 112, zero := .st [.sc (.int .i64 0), .sc (.int .i64 0), .sc (.int .i64 0), .ar 32 (.lf) (List.replicate 32 (.sc (.int .u8 0))), .sl (.lf) [] .ex, .ar 32 (.lf) (List.replicate 32 (.sc (.int .u8 0)))] }),
  (102, { k := .strct [(3, 0), (3, 1), (3, 2), (41, 3), (35, 35), (41, 36)], sh := .nd [.lf, .lf, .lf, .ar 32 (.lf), .lf, .ar 32 (.lf)], bytes := 112, zero := .st [.sc (.int .i64 0), .sc (.int .i64 0), .sc (.int .i64 0), .ar 32 (.lf) (List.replicate 32 (.sc (.int .u8 0))), .sl (.lf) [] .ex, .ar 32 (.lf) (List.replicate 32 (.sc (.int .u8 0)))] }),
  (103, { k := .slice 107, sh := .lf, bytes := 24, zero := .sl (.nd [.lf, .lf, .lf, .lf, .lf, .lf, .lf]) [] .ex }),
  (104, { k := .strct [(41, 0), (3, 32), (3, 33), (3, 34), (103, 35)], sh := .nd [.ar 32 (.lf), .lf, .lf, .lf, .lf], bytes := 80, zero := .st [.ar 32 (.lf) (List.replicate 32 (.sc (.int .u8 0))), .sc (.int .i64 0), .sc (.int .i64 0), .sc (.int .i64 0), .sl (.nd [.lf, .lf, .lf, .lf, .lf, .lf, .lf]) [] .ex] }),
  (105, { k := .strct [(41, 0), (3, 32), (3, 33), (3, 34), (103, 35)], sh := .nd [.ar 32 (.lf), .lf, .lf, .lf, .lf], bytes := 80, zero := .st [.ar 32 (.lf) (List.replicate 32 (.sc (.int .u8 0))), .sc (.int .i64 0), .sc (.int .i64 0), .sc (.int .i64 0), .sl (.nd [.lf, .lf, .lf, .lf, .lf, .lf, .lf]) [] .ex] }),
  (106, { k := .strct [(3, 0), (3, 1), (3, 2), (3, 3), (3, 4), (9, 5), (9, 6)], sh := .nd [.lf, .lf, .lf, .lf, .lf, .lf, .lf], bytes := 72, zero := .st [.sc (.int .i64 0), .sc (.int .i64 0), .sc (.int .i64 0), .sc (.int .i64 0), .sc (.int .i64 0), .sc (.string .empty), .sc (.string .empty)] }),
  (107, { k := .strct [(3, 0), (3, 1), (3, 2), (3, 3), (3, 4), (9, 5), (9, 6)], sh := .nd [.lf, .lf, .lf, .lf, .lf, .lf, .lf], bytes := 72, zero := .st [.sc (.int .i64 0), .sc (.int .i64 0), .sc (.int .i64 0), .sc (.int .i64 0), .sc (.int .i64 0), .sc (.string .empty), .sc (.string .empty)] }),
  (108, { k := .strct [(3, 0), (3, 1), (3, 2), (97, 3), (100, 104), (102, 206), (105, 274), (41, 310), (107, 342)], sh := .nd [.lf, .lf, .lf, .nd [.lf, .lf, .lf, .lf, .ar 32 (.lf), .lf, .ar 32 (.lf), .ar 32 (.lf)], .nd [.nd [.lf, .lf, .lf, .lf, .ar 32 (.lf), .lf, .ar 32 (.lf), .ar 32 (.lf)], .lf], .nd [.lf, .lf, .lf, .ar 32 (.lf), .lf, .ar 32 (.lf)], .nd [.ar 32 (.lf), .lf, .lf, .lf, .lf], .ar 32 (.lf), .nd [.lf, .lf, .lf, .lf, .lf, .lf, .lf]], bytes := 616, zero := .st [.sc (.int .i64 0), .sc (.int .i64 0), .sc (.int .i64 0), .st [.sc (.int .i64 0), .sc (.int .i64 0), .sc (.int .i64 0), .sc (.int .i64 0), .ar 32 (.lf) (List.replicate 32 (.sc (.int .u8 0))), .sc (.int .i64 0), .ar 32 (.lf) (List.replicate 32 (.sc (.int .u8 0))), .ar 32 (.lf) (List.replicate 32 (.sc (.int .u8 0)))], .st [.st [.sc (.int .i64 0), .sc (.int .i64 0), .sc (.int .i64 0), .sc (.int .i64 0), .ar 32 (.lf) (List.replicate 32 (.sc (.int .u8 0))), .sc (.int .i64 0), .ar 32 (.lf) (List.replicate 32 (.sc (.int .u8 0))), .ar 32 (.lf) (List.replicate 32 (.sc (.int .u8 0)))], .sl (.nd [.lf, .ar 32 (.lf)]) [] .ex], .st [.sc (.int .i64 0), .sc (.int .i64 0), .sc (.int .i64 0), .ar 32 (.lf) (List.replicate 32 (.sc (.int .u8 0))), .sl (.lf) [] .ex, .ar 32 (.lf) (List.replicate 32 (.sc (.int .u8 0)))], .st [.ar 32 (.lf) (List.replicate 32 (.sc (.int .u8 0))), .sc (.int .i64 0), .sc (.int .i64 0), .sc (.int .i64 0), .sl (.nd [.lf, .lf, .lf, .lf, .lf, .lf, .lf]) [] .ex], .ar 32 (.lf) (List.replicate 32 (.sc (.int .u8 0))), .st [.sc (.int .i64 0), .sc (.int .i64 0), .sc (.int .i64 0), .sc (.int .i64 0), .sc (.int .i64 0), .sc (.string .empty), .sc (.string .empty)]] }),
  (109, { k := .strct [(3, 0), (3, 1), (3, 2), (97, 3), (100, 104), (102, 206), (105, 274), (41, 310), (107, 342)], sh := .nd [.lf, .lf, .lf, .nd [.lf, .lf, .lf, .lf, .ar 32 (.lf), .lf, .ar 32 (.lf), .ar 32 (.lf)], .nd [.nd [.lf, .lf, .lf, .lf, .ar 32 (.lf), .lf, .ar 32 (.lf), .ar 32 (.lf)], .lf], .nd [.lf, .lf, .lf, .ar 32 (.lf), .lf, .ar 32 (.lf)], .nd [.ar 32 (.lf), .lf, .lf, .lf, .lf], .ar 32 (.lf), .nd [.lf, .lf, .lf, .lf, .lf, .lf, .lf]], bytes := 616, zero := .st [.sc (.int .i64 0), .sc (.int .i64 0), .sc (.int .i64 0), .st [.sc (.int .i64 0), .sc (.int .i64 0), .sc (.int .i64 0), .sc (.int .i64 0), .ar 32 (.lf) (List.replicate 32 (.sc (.int .u8 0))), .sc (.int .i64 0), .ar 32 (.lf) (List.replicate 32 (.sc (.int .u8 0))), .ar 32 (.lf) (List.replicate 32 (.sc (.int .u8 0)))], .st [.st [.sc (.int .i64 0), .sc (.int .i64 0), .sc (.int .i64 0), .sc (.int .i64 0), .ar 32 (.lf) (List.replicate 32 (.sc (.int .u8 0))), .sc (.int .i64 0), .ar 32 (.lf) (List.replicate 32 (.sc (.int .u8 0))), .ar 32 (.lf) (List.replicate 32 (.sc (.int .u8 0)))], .sl (.nd [.lf, .ar 32 (.lf)]) [] .ex], .st [.sc (.int .i64 0), .sc (.int .i64 0), .sc (.int .i64 0), .ar 32 (.lf) (List.replicate 32 (.sc (.int .u8 0))), .sl (.lf) [] .ex, .ar 32 (.lf) (List.replicate 32 (.sc (.int .u8 0)))], .st [.ar 32 (.lf) (List.replicate 32 (.sc (.int .u8 0))), .sc (.int .i64 0), .sc (.int .i64 0), .sc (.int .i64 0), .sl (.nd [.lf, .lf, .lf, .lf, .lf, .lf, .lf]) [] .ex], .ar 32 (.lf) (List.replicate 32 (.sc (.int .u8 0))), .st [.sc (.int .i64 0), .sc (.int .i64 0), .sc (.int .i64 0), .sc (.int .i64 0), .sc (.int .i64 0), .sc (.string .empty), .sc (.string .empty)]] }),
  (111, { k := .slice 41, sh := .lf, bytes := 24, zero := .sl (.ar 32 (.lf)) [] .ex }),
  (114, { k := .slice 140, sh := .lf, bytes := 24, zero := .sl (.nd [.ar 32 (.lf), .lf, .lf]) [] .ex }),
  (115, { k := .strct [(3, 0), (3, 1), (114, 2)], sh := .nd [.lf, .lf, .lf], bytes := 40, zero := .st [.sc (.int .i64 0), .sc (.int .i64 0), .sl (.nd [.ar 32 (.lf), .lf, .lf]) [] .ex] }),
  (116, { k := .strct [(3, 0), (3, 1), (114, 2)], sh := .nd [.lf, .lf, .lf], bytes := 40, zero := .st [.sc (.int .i64 0), .sc (.int .i64 0), .sl (.nd [.ar 32 (.lf), .lf, .lf]) [] .ex] }),
  (119, { k := .strct [(41, 0), (3, 32), (3, 33), (50, 34)], sh := .nd [.ar 32 (.lf), .lf, .lf, .lf], bytes := 56, zero := .st [.ar 32 (.lf) (List.replicate 32 (.sc (.int .u8 0))), .sc (.int .i64 0), .sc (.int .i64 0), .sc (.int .i64 0)] }),
  (120, { k := .strct [(41, 0), (3, 32), (3, 33), (50, 34)], sh := .nd [.ar 32 (.lf), .lf, .lf, .lf], bytes := 56, zero := .st [.ar 32 (.lf) (List.replicate 32 (.sc (.int .u8 0))), .sc (.int .i64 0), .sc (.int .i64 0), .sc (.int .i64 0)] }),
  (129, { k := .slice 22, sh := .lf, bytes := 24, zero := .sl (.lf) [] .ex }),
  (134, { k := .strct [(22, 0), (4, 1)], sh := .nd [.lf, .lf], bytes := 32, zero := .st [.sl (.lf) [] .ex, .sc (.bool false)] }),
  (135, { k := .strct [(22, 0), (4, 1)], sh := .nd [.lf, .lf], bytes := 32, zero := .st [.sl (.lf) [] .ex, .sc (.bool false)] }),
  (139, { k := .strct [(41, 0), (3, 32), (3, 33)], sh := .nd [.ar 32 (.lf), .lf, .lf], bytes := 48, zero := .st [.ar 32 (.lf) (List.replicate 32 (.sc (.int .u8 0))), .sc (.int .i64 0), .sc (.int .i64 0)] }),
  (140, { k := .strct [(41, 0), (3, 32), (3, 33)], sh := .nd [.ar 32 (.lf), .lf, .lf], bytes := 48, zero := .st [.ar 32 (.lf) (List.replicate 32 (.sc (.int .u8 0))), .sc (.int .i64 0), .sc (.int .i64 0)] }),
  (142, { k := .ptr 140, sh := .lf, bytes := 8, zero := .sc (.pointer none) }),
  (155, { k := .strct [(3, 0), (41, 1)], sh := .nd [.lf, .ar 32 (.lf)], bytes := 40, zero := .st [.sc (.int .i64 0), .ar 32 (.lf) (List.replicate 32 (.sc (.int .u8 0)))] }),
  (156, { k := .strct [(3, 0), (41, 1)], sh := .nd [.lf, .ar 32 (.lf)], bytes := 40, zero := .st [.sc (.int .i64 0), .ar 32 (.lf) (List.replicate 32 (.sc (.int .u8 0)))] }),
  (169, { k := .ptr 5, sh := .lf, bytes := 8, zero := .sc (.pointer none) })]
def D : Tabs := ⟨tab, []⟩
theorem tabOK : TabOK Try.prog D := tabOK_of (by decide +kernel)
theorem hmix : Try.prog.follows .mixedOrders = true := by decide +kernel
end Go.WL.T1
namespace Go.WL.T1
open Go.WL Go.Proofs
set_option maxRecDepth 20000
abbrev n32 (b : BitVec 32) : Int := (b.toNat : Int)

theorem ofn32 (a : BitVec 32) : BitVec.ofInt 32 (n32 a) = a := by
  simp [n32]
theorem r32 (a : BitVec 32) : 0 ≤ n32 a ∧ n32 a < 4294967296 := by
  have := a.isLt
  show 0 ≤ (a.toNat : Int) ∧ (a.toNat : Int) < 4294967296
  omega
theorem wn32 (a : BitVec 32) : IntKind.u32.wrap (n32 a) = n32 a := wu32 (r32 a).1 (r32 a).2
theorem xor32 (a b : BitVec 32) : IntKind.u32.wrap ((BitVec.ofInt IntKind.u32.bits (n32 a) ^^^ BitVec.ofInt IntKind.u32.bits (n32 b)).toNat : Int) = n32 (a ^^^ b) := by
  show IntKind.u32.wrap ((BitVec.ofInt 32 (n32 a) ^^^ BitVec.ofInt 32 (n32 b)).toNat : Int) = _
  rw [ofn32, ofn32]
  exact wn32 _
theorem and32 (a b : BitVec 32) : IntKind.u32.wrap ((BitVec.ofInt IntKind.u32.bits (n32 a) &&& BitVec.ofInt IntKind.u32.bits (n32 b)).toNat : Int) = n32 (a &&& b) := by
  show IntKind.u32.wrap ((BitVec.ofInt 32 (n32 a) &&& BitVec.ofInt 32 (n32 b)).toNat : Int) = _
  rw [ofn32, ofn32]
  exact wn32 _
theorem shl32 (a : BitVec 32) (k : Nat) : IntKind.u32.wrap (n32 a * 2 ^ k) = n32 (a <<< k) := by
  simp only [IntKind.wrap, IntKind.signed, IntKind.bits, n32, BitVec.toNat_shiftLeft, Nat.shiftLeft_eq, Bool.false_and, Bool.false_eq_true, if_false]
  norm_cast
theorem c32 (c : UInt8) : IntKind.u32.wrap (c.toNat : Int) = n32 (c.toBitVec.setWidth 32) := by
  have h := c.toNat_lt
  rw [wu32 (by omega) (by omega)]
  simp [n32]
theorem add32 (a b : BitVec 32) : IntKind.u32.wrap (n32 a + n32 b) = n32 (a + b) := by
  simp only [IntKind.wrap, IntKind.signed, IntKind.bits, n32, BitVec.toNat_add, Bool.false_and, Bool.false_eq_true, if_false]
  norm_cast
theorem or32 (a b : BitVec 32) : IntKind.u32.wrap ((BitVec.ofInt IntKind.u32.bits (n32 a) ||| BitVec.ofInt IntKind.u32.bits (n32 b)).toNat : Int) = n32 (a ||| b) := by
  show IntKind.u32.wrap ((BitVec.ofInt 32 (n32 a) ||| BitVec.ofInt 32 (n32 b)).toNat : Int) = _
  rw [ofn32, ofn32]
  exact wn32 _
theorem not32 (a : BitVec 32) : IntKind.u32.wrap ((BitVec.ofInt IntKind.u32.bits 4294967295 ^^^ BitVec.ofInt IntKind.u32.bits (n32 a)).toNat : Int) = n32 (~~~a) := by
  show IntKind.u32.wrap ((BitVec.ofInt 32 4294967295 ^^^ BitVec.ofInt 32 (n32 a)).toNat : Int) = _
  rw [ofn32, show (BitVec.ofInt 32 4294967295 : BitVec 32) = BitVec.allOnes 32 by decide, BitVec.allOnes_xor]
  exact wn32 _
theorem shr32 (a : BitVec 32) (k : Nat) : Int.fdiv (n32 a) (2 ^ k) = n32 (a >>> k) := by
  show Int.fdiv ((a.toNat : Nat) : Int) (2 ^ k) = (((a >>> k).toNat : Nat) : Int)
  rw [BitVec.toNat_ushiftRight, Nat.shiftRight_eq_div_pow, show (2 : Int) ^ k = ((2 ^ k : Nat) : Int) by simp, Int.fdiv_eq_ediv_of_nonneg _ (Int.natCast_nonneg _)]
  rfl
/-- A word, as a value. -/
def w32 (l : List (BitVec 32)) : List AV := l.map fun a => .sc (.int .u32 (n32 a))
theorem w32_len (l : List (BitVec 32)) : (w32 l).length = l.length := by simp [w32]
theorem w32_at {l : List (BitVec 32)} {i : Nat} (h : i < l.length) : (w32 l)[((i : Nat) : Int).toNat]? = some (.sc (.int .u32 (n32 l[i]))) := by simp [w32, h]
/-- A word turned to the right, bit by bit. -/
def ror1 (x : BitVec 32) : BitVec 32 := x >>> 1 ||| x <<< 31
def ror : Nat → BitVec 32 → BitVec 32
  | 0, x => x
  | n + 1, x => ror1 (ror n x)
theorem ror1_bit (x : BitVec 32) (i : Nat) (h : i < 32) : (ror1 x).getLsbD i = x.getLsbD ((i + 1) % 32) := by
  unfold ror1
  simp only [BitVec.getLsbD_or, BitVec.getLsbD_ushiftRight, BitVec.getLsbD_shiftLeft]
  by_cases h1 : i = 31
  · subst h1
    simp
  · rw [Nat.mod_eq_of_lt (by omega)]
    simp [show i < 31 by omega, Nat.add_comm]
theorem ror_bit (n : Nat) (x : BitVec 32) (i : Nat) (h : i < 32) : (ror n x).getLsbD i = x.getLsbD ((i + n) % 32) := by
  induction n generalizing i with
  | zero => rw [ror, Nat.add_zero, Nat.mod_eq_of_lt h]
  | succ n ih =>
    rw [ror, ror1_bit _ _ h, ih _ (Nat.mod_lt _ (by omega))]
    congr 1
    omega
theorem ror_is (n : Nat) (x : BitVec 32) (h0 : 0 < n) (h1 : n < 32) : x <<< (32 - n) ||| x >>> n = ror n x := by
  apply BitVec.eq_of_getLsbD_eq
  intro i hi
  rw [ror_bit n x i hi]
  simp only [BitVec.getLsbD_or, BitVec.getLsbD_ushiftRight, BitVec.getLsbD_shiftLeft]
  by_cases h2 : i + n < 32
  · rw [Nat.mod_eq_of_lt h2]
    simp [show i < 32 - n by omega, Nat.add_comm]
  · rw [show (i + n) % 32 = i - (32 - n) by omega]
    have h3 : ¬ i < 32 - n := by omega
    have h4 : x.getLsbD (n + i) = false := BitVec.getLsbD_of_ge _ _ (by omega)
    simp [hi, h3, h4]
end Go.WL.T1
namespace Go.WL.T1
open Go.WL Go.Proofs
set_option maxRecDepth 20000

/-! ### The check, in bits -/
def poly : BitVec 32 := 0x814141ab#32
def it (n : BitVec 32) : BitVec 32 := (n <<< 1) ^^^ (if n.msb then poly else 0#32)
def its : Nat → BitVec 32 → BitVec 32
  | 0, n => n
  | k + 1, n => it (its k n)
def crcB (n : BitVec 32) (c : UInt8) : BitVec 32 := its 8 (n ^^^ (c.toBitVec.setWidth 32 <<< 24))
def crc (n : BitVec 32) (l : List UInt8) : BitVec 32 := l.foldl crcB n
theorem msb32 (a : BitVec 32) : (n32 (a &&& 0x80000000#32) != 0) = a.msb := by
  have e : a &&& 0x80000000#32 = if a.msb then 0x80000000#32 else 0#32 := by
    rw [show (0x80000000#32 : BitVec 32) = BitVec.twoPow 32 31 by rfl, BitVec.and_twoPow, BitVec.msb_eq_getLsbD_last]
  rw [e]
  cases a.msb <;> rfl
theorem its_add (j k : Nat) (n : BitVec 32) : its (j + k) n = its j (its k n) := by
  induction j with
  | zero => rw [Nat.zero_add]; rfl
  | succ j ih => rw [Nat.succ_add, its, ih, its]
theorem it_xor (a b : BitVec 32) : it (a ^^^ b) = it a ^^^ it b := by
  unfold it
  rw [BitVec.shiftLeft_xor_distrib, BitVec.msb_xor]
  generalize a <<< 1 = x
  generalize b <<< 1 = y
  cases a.msb <;> cases b.msb
  · simp
  · simp
    ac_rfl
  · simp
    ac_rfl
  · simp
    have e : x ^^^ poly ^^^ (y ^^^ poly) = (poly ^^^ poly) ^^^ (x ^^^ y) := by ac_rfl
    rw [e, BitVec.xor_self, BitVec.zero_xor]
theorem its_xor (k : Nat) (a b : BitVec 32) : its k (a ^^^ b) = its k a ^^^ its k b := by
  induction k with
  | zero => rfl
  | succ k ih => rw [its, ih, it_xor]; rfl
theorem crc_xor : ∀ (l m : List UInt8) (a b : BitVec 32), l.length = m.length → crc (a ^^^ b) (List.zipWith (· ^^^ ·) l m) = crc a l ^^^ crc b m
  | [], [], a, b, _ => rfl
  | x :: l, y :: m, a, b, h => by
    simp only [List.zipWith_cons_cons, crc, List.foldl_cons]
    have e : crcB (a ^^^ b) (x ^^^ y) = crcB a x ^^^ crcB b y := by
      unfold crcB
      rw [← its_xor, UInt8.toBitVec_xor, BitVec.setWidth_xor, BitVec.shiftLeft_xor_distrib]
      generalize x.toBitVec.setWidth 32 <<< 24 = p
      generalize y.toBitVec.setWidth 32 <<< 24 = q
      have e : a ^^^ b ^^^ (p ^^^ q) = a ^^^ p ^^^ (b ^^^ q) := by ac_rfl
      rw [e]
    rw [e]
    exact crc_xor l m _ _ (by simpa using h)
theorem crc_append (n : BitVec 32) (l m : List UInt8) : crc n (l ++ m) = crc (crc n l) m := by simp [crc, List.foldl_append]

/-! ### The reference's division, a bit at a time -/
def refb (r : BitVec 32) (b : Bool) : BitVec 32 := it r ^^^ (if b then 1#32 else 0#32)
def bit (c : UInt8) (k : Nat) : Bool := c.toBitVec.getLsbD k
/-- A byte's bits, from the k-th down, shifted in. -/
def refB (r : BitVec 32) (c : UInt8) : Nat → BitVec 32
  | 0 => r
  | k + 1 => refB (refb r (bit c k)) c k
def ref (r : BitVec 32) (l : List UInt8) : BitVec 32 := l.foldl (fun r c => refB r c 8) r
theorem refB_lin (c : UInt8) : ∀ (k : Nat) (a b : BitVec 32), refB (a ^^^ b) c k = its k a ^^^ refB b c k
  | 0, a, b => rfl
  | k + 1, a, b => by
    simp only [refB, refb]
    rw [it_xor, BitVec.xor_assoc, refB_lin c k, its_add k 1]
    rfl
theorem each8 {Q : UInt8 → Prop} (h : ∀ n, n < 256 → Q (UInt8.ofNat n)) (c : UInt8) : Q c := by
  have := h c.toNat c.toNat_lt
  rwa [UInt8.ofNat_toNat] at this
theorem refB_zero : ∀ c : UInt8, refB 0#32 c 8 = c.toBitVec.setWidth 32 := each8 (by decide +kernel)
theorem its24 : ∀ c : UInt8, its 24 (c.toBitVec.setWidth 32) = c.toBitVec.setWidth 32 <<< 24 := each8 (by decide +kernel)
theorem ref_crc : ∀ (l : List UInt8) (r : BitVec 32), its 32 (ref r l) = crc (its 32 r) l
  | [], r => rfl
  | c :: l, r => by
    simp only [ref, crc, List.foldl_cons]
    rw [show l.foldl (fun r c => refB r c 8) (refB r c 8) = ref (refB r c 8) l from rfl, show l.foldl crcB (crcB (its 32 r) c) = crc (crcB (its 32 r) c) l from rfl, ref_crc l]
    congr 1
    have e : refB r c 8 = its 8 r ^^^ c.toBitVec.setWidth 32 := by
      have := refB_lin c 8 r 0#32
      rw [BitVec.xor_zero] at this
      rw [this, refB_zero]
    rw [e, its_xor, crcB, its_xor, ← its24, ← its_add, ← its_add, ← its_add]
/-- With four bytes 0 behind: the check. -/
theorem ref_is (l : List UInt8) : ref 0#32 (l ++ [0, 0, 0, 0]) = crc 0#32 l := by
  have e : ∀ r : BitVec 32, ref r [0, 0, 0, 0] = its 32 r := by
    intro r
    have : ∀ r : BitVec 32, refB r 0 8 = its 8 r := by
      intro r
      have := refB_lin 0 8 r 0#32
      rw [BitVec.xor_zero, refB_zero] at this
      rw [this]
      exact BitVec.xor_zero
    simp only [ref, List.foldl_cons, List.foldl_nil, this, ← its_add]
  rw [ref, List.foldl_append]
  show ref (ref 0#32 l) [0, 0, 0, 0] = _
  rw [e, ref_crc]
  rfl
end Go.WL.T1
namespace Go.WL.T1
open Go.WL Go.Proofs
set_option maxRecDepth 20000
set_option maxHeartbeats 4000000
theorem by8_at {b : List UInt8} {i : Nat} (h : i < b.length) : (by8 b)[i]? = some (.sc (.int .u8 (b[i].toNat : Int))) := by
  simp [by8, h]
theorem shl24 (a : BitVec 32) : IntKind.u32.wrap (n32 a * 2 ^ min (Int.toNat 24) IntKind.u32.bits) = n32 (a <<< 24) := shl32 a 24
theorem shl1 (a : BitVec 32) : IntKind.u32.wrap (n32 a * 2 ^ min (Int.toNat 1) IntKind.u32.bits) = n32 (a <<< 1) := shl32 a 1
theorem by8_len (b : List UInt8) : (by8 b).length = b.length := by simp [by8]
theorem c_crc (ps : List (List UInt8)) (hl : ps.length < 1000000) (hp : ∀ p ∈ ps, p.length < 1000000000) : FnOK Try.prog D 17 [.sl .lf (ps.map (fun b => (AV.sl .lf (by8 (b)) .ro))) .ro] [] (fun r st => r = (AV.sc (.int .u32 (n32 (crc 0#32 ps.flatten)))) ∧ st = []) := by
  refine fnok_of_W hmix tabOK Try.func17 rfl rfl (Nat.le_of_ble_eq_true rfl) ?_
  conv => whnf
  refine ⟨false, [3, 9, 10, 11], fun τ => ∃ i : Nat, i ≤ ps.length ∧ τ = ⟨40, [(3, (AV.sc (.int .u32 (n32 (crc 0#32 (ps.take i).flatten))))), (9, .sl .lf (ps.map (fun b => (AV.sl .lf (by8 (b)) .ro))) .ro), (10, .sc (.int .i64 (ps.length : Int))), (11, .sc (.int .i64 (i : Int)))], ⟨[], [], 0⟩⟩, fun τ => ps.length - (slotI τ 11).toNat, ?_, ?_⟩
  · conv => whnf
    exact ⟨0, Nat.zero_le _, by rw [List.length_map]; rfl⟩
  · rintro τ ⟨i, hi, rfl⟩
    conv => whnf
    refine Branch.of (fun h => ?_) (fun h => ?_) <;> rw [h] <;> conv => whnf
    · simp only [decide_eq_true_eq] at h
      have hi' : i < ps.length := by omega
      refine ⟨by omega, (AV.sl .lf (by8 (ps[i])) .ro), by simp [hi'], ?_⟩
      conv => whnf
      have hpi := hp ps[i] (List.getElem_mem hi')
      generalize hq : ps[i] = q at hpi
      generalize hn : crc 0#32 (ps.take i).flatten = n0
      refine ⟨false, [3, 9, 10, 11, 15, 16, 17], fun τ => ∃ j : Nat, j ≤ q.length ∧ τ = ⟨40, [(3, (AV.sc (.int .u32 (n32 (crc n0 (q.take j)))))), (9, .sl .lf (ps.map (fun b => (AV.sl .lf (by8 (b)) .ro))) .ro), (10, .sc (.int .i64 (ps.length : Int))), (11, .sc (.int .i64 (i : Int))), (15, (AV.sl .lf (by8 (q)) .ro)), (16, .sc (.int .i64 (q.length : Int))), (17, .sc (.int .i64 (j : Int)))], ⟨[], [], 0⟩⟩, fun τ => q.length - (slotI τ 17).toNat, ?_, ?_⟩
      · conv => whnf
        exact ⟨0, Nat.zero_le _, by rw [by8_len]; rfl⟩
      · rintro τ ⟨j, hj, rfl⟩
        conv => whnf
        refine Branch.of (fun h2 => ?_) (fun h2 => ?_) <;> rw [h2] <;> conv => whnf
        · simp only [decide_eq_true_eq] at h2
          have hj' : j < q.length := by omega
          refine ⟨by omega, .sc (.int .u8 (q[j].toNat : Int)), by simp [by8, hj'], ?_⟩
          conv => whnf
          refine ⟨by omega, ?_⟩
          conv => whnf
          rw [c32 q[j], shl24 (q[j].toBitVec.setWidth 32), xor32 (crc n0 (q.take j)) (q[j].toBitVec.setWidth 32 <<< 24)]
          refine ⟨false, [3, 9, 10, 11, 15, 16, 17, 26], fun τ => ∃ k : Nat, k ≤ 8 ∧ τ = ⟨40, [(3, (AV.sc (.int .u32 (n32 (its k (crc n0 (q.take j) ^^^ (q[j].toBitVec.setWidth 32 <<< 24))))))), (9, .sl .lf (ps.map (fun b => (AV.sl .lf (by8 (b)) .ro))) .ro), (10, .sc (.int .i64 (ps.length : Int))), (11, .sc (.int .i64 (i : Int))), (15, (AV.sl .lf (by8 (q)) .ro)), (16, .sc (.int .i64 (q.length : Int))), (17, .sc (.int .i64 (j : Int))), (26, .sc (.int .i64 (k : Int)))], ⟨[], [], 0⟩⟩, fun τ => 8 - (slotI τ 26).toNat, ?_, ?_⟩
          · conv => whnf
            exact ⟨0, Nat.zero_le _, rfl⟩
          · rintro τ ⟨k, hk, rfl⟩
            generalize hx : its k (crc n0 (q.take j) ^^^ (q[j].toBitVec.setWidth 32 <<< 24)) = x
            conv => whnf
            refine Branch.of (fun h3 => ?_) (fun h3 => ?_) <;> rw [h3] <;> conv => whnf
            · simp only [decide_eq_true_eq] at h3
              refine ⟨by omega, ?_⟩
              conv => whnf
              have ht : (IntKind.u32.wrap ((BitVec.ofInt IntKind.u32.bits (n32 x) &&& BitVec.ofInt IntKind.u32.bits 2147483648).toNat : Int) != 0) = x.msb := by
                have := and32 x 0x80000000#32
                rw [show (n32 0x80000000#32) = 2147483648 from rfl] at this
                rw [this, msb32]
              have hs : its (k + 1) (crc n0 (q.take j) ^^^ (q[j].toBitVec.setWidth 32 <<< 24)) = (x <<< 1) ^^^ (if x.msb then poly else 0#32) := by
                rw [its, hx]; rfl
              refine Branch.of (fun h4 => ?_) (fun h4 => ?_)
              · have hmsb : x.msb = true := ht.symm.trans h4
                clear h4 ht
                rw [hmsb] at hs
                conv => whnf
                rw [shl1 x, show IntKind.u32.wrap ((BitVec.ofInt IntKind.u32.bits (n32 (x <<< 1)) ^^^ BitVec.ofInt IntKind.u32.bits 2168537515).toNat : Int) = n32 (x <<< 1 ^^^ poly) from xor32 (x <<< 1) poly, w64 (x := (k : Int) + 1) (by omega) (by omega)]
                refine ⟨⟨k + 1, by omega, by rw [hs]; rfl⟩, ?_⟩
                show 8 - ((k : Int) + 1).toNat < 8 - (k : Int).toNat
                omega
              · have hmsb : x.msb = false := ht.symm.trans h4
                clear h4 ht
                rw [hmsb] at hs
                conv => whnf
                rw [shl1 x, w64 (x := (k : Int) + 1) (by omega) (by omega)]
                refine ⟨⟨k + 1, by omega, by rw [hs, show (x <<< 1 ^^^ if false = true then poly else 0#32) = x <<< 1 from BitVec.xor_zero]; rfl⟩, ?_⟩
                show 8 - ((k : Int) + 1).toNat < 8 - (k : Int).toNat
                omega
            · simp only [decide_eq_false_iff_not] at h3
              have hk8 : k = 8 := by omega
              subst hk8
              rw [w64 (x := (j : Int) + 1) (by omega) (by omega)]
              refine ⟨⟨j + 1, by omega, ?_⟩, ?_⟩
              · have : crc n0 (q.take (j + 1)) = x := by
                  rw [List.take_succ_eq_append_getElem hj', crc_append, ← hx]
                  rfl
                rw [this]
                rfl
              · show q.length - ((j : Int) + 1).toNat < q.length - (j : Int).toNat
                omega
        · simp only [decide_eq_false_iff_not] at h2
          have hjq : j = q.length := by omega
          subst hjq
          rw [w64 (x := (i : Int) + 1) (by omega) (by omega)]
          refine ⟨⟨i + 1, by omega, ?_⟩, ?_⟩
          · have : crc 0#32 (ps.take (i + 1)).flatten = crc n0 (q.take q.length) := by
              rw [List.take_succ_eq_append_getElem hi', List.flatten_append, crc_append, hn, hq, List.take_length]
              simp
            rw [this]
            rfl
          · show ps.length - ((i : Int) + 1).toNat < ps.length - (i : Int).toNat
            omega
    · simp only [decide_eq_false_iff_not] at h
      have hip : i = ps.length := by omega
      subst hip
      refine ⟨false, [], ?_⟩
      conv => whnf
      refine ⟨?_, rfl⟩
      congr 2
      rw [List.take_length]
end Go.WL.T1
namespace Go.WL.T1
open Go.WL Go.Proofs
set_option maxRecDepth 20000
set_option maxHeartbeats 1000000
def bi (b : Bool) : Nat := if b then 1 else 0
theorem even_xor (a : Nat) (b : Bool) : (2 * a) ^^^ bi b = 2 * a + bi b := by
  cases b with
  | false => exact Nat.xor_zero _
  | true =>
    show (2 * a) ^^^ 1 = 2 * a + 1
    apply Nat.eq_of_testBit_eq
    intro i
    cases i with
    | zero => simp [Nat.testBit_zero, Nat.add_mod]
    | succ i =>
      have e1 : (2 * a + 1) / 2 = a := by omega
      have e2 : (2 * a) / 2 = a := by omega
      rw [Nat.testBit_xor, Nat.testBit_succ, Nat.testBit_succ (x := 1), Nat.testBit_succ (x := 2 * a + 1), e1, e2]
      simp
theorem low_toNat (r : BitVec 32) (b : Bool) : (r <<< 1 ^^^ (if b then 1#32 else 0#32)).toNat = r.toNat * 2 % 4294967296 + bi b := by
  rw [BitVec.toNat_xor, BitVec.toNat_shiftLeft, Nat.shiftLeft_eq]
  have e1 : (if b then 1#32 else 0#32 : BitVec 32).toNat = bi b := by cases b <;> rfl
  have e2 : r.toNat * 2 ^ 1 % 2 ^ 32 = 2 * (r.toNat % 2147483648) := by omega
  rw [e1, e2, even_xor]
theorem refb_low (r : BitVec 32) (b : Bool) (h : r.toNat * 2 + bi b < 4294967296) : n32 (refb r b) = n32 r * 2 + (bi b : Int) := by
  have hm : r.msb = false := by
    rw [BitVec.msb_eq_decide]
    have : bi b ≤ 1 := by cases b <;> decide
    simp
    omega
  have e : refb r b = r <<< 1 ^^^ (if b then 1#32 else 0#32) := by
    unfold refb it
    rw [hm]
    simp
  show ((refb r b).toNat : Int) = (r.toNat : Int) * 2 + bi b
  rw [e, low_toNat]
  omega
theorem xor64 (a b : Nat) (ha : a < 18446744073709551616) (hb : b < 18446744073709551616) : IntKind.u64.wrap ((BitVec.ofInt IntKind.u64.bits (a : Int) ^^^ BitVec.ofInt IntKind.u64.bits (b : Int)).toNat : Int) = ((a ^^^ b : Nat) : Int) := by
  show IntKind.u64.wrap ((BitVec.ofInt 64 (a : Int) ^^^ BitVec.ofInt 64 (b : Int)).toNat : Int) = _
  have h : a ^^^ b < 2 ^ 64 := Nat.xor_lt_two_pow ha hb
  rw [BitVec.toNat_xor]
  have e1 : (BitVec.ofInt 64 (a : Int)).toNat = a := by simp; omega
  have e2 : (BitVec.ofInt 64 (b : Int)).toNat = b := by simp; omega
  rw [e1, e2]
  exact wu64 (by omega) (by omega)
theorem refb_high (r : BitVec 32) (b : Bool) (h : 4294967296 ≤ r.toNat * 2 + bi b) : IntKind.u64.wrap ((BitVec.ofInt IntKind.u64.bits (IntKind.u64.wrap ((n32 r * 2 + (bi b : Int)) - 4294967296)) ^^^ BitVec.ofInt IntKind.u64.bits 2168537515).toNat : Int) = n32 (refb r b) := by
  have hb : bi b ≤ 1 := by cases b <;> decide
  have hm : r.msb = true := by
    rw [BitVec.msb_eq_decide]
    simp
    omega
  have hr := r.isLt
  have e0 : (n32 r * 2 + (bi b : Int)) - 4294967296 = ((r.toNat * 2 % 4294967296 + bi b : Nat) : Int) := by
    show (r.toNat : Int) * 2 + bi b - 4294967296 = _
    omega
  rw [e0, wu64 (x := ((r.toNat * 2 % 4294967296 + bi b : Nat) : Int)) (by omega) (by omega), show (2168537515 : Int) = ((2168537515 : Nat) : Int) from rfl, xor64 _ _ (by omega) (by omega), ← low_toNat, show (2168537515 : Nat) = poly.toNat from rfl, ← BitVec.toNat_xor]
  congr 2
  unfold refb it
  rw [hm, if_pos rfl]
  generalize r <<< 1 = x
  ac_rfl
theorem bit_at (c : UInt8) (k : Nat) : (Int.fdiv (c.toNat : Int) (2 ^ min k IntKind.u8.bits)).tmod 2 = (bi (bit c k) : Int) := by
  have e : ((2 : Int) ^ min k IntKind.u8.bits) = ((2 ^ min k 8 : Nat) : Int) := by simp [IntKind.bits]
  rw [e, Int.fdiv_eq_ediv_of_nonneg _ (Int.natCast_nonneg _), ← Int.natCast_ediv, Int.tmod_eq_emod_of_nonneg (Int.natCast_nonneg _)]
  have hb : bit c k = decide (c.toNat / 2 ^ k % 2 = 1) := by
    rw [bit, BitVec.getLsbD, ← Nat.testBit_eq_decide_div_mod_eq]
    rfl
  have hc := c.toNat_lt
  by_cases h : k ≤ 8
  · rw [Nat.min_eq_left h, hb]
    by_cases h2 : c.toNat / 2 ^ k % 2 = 1
    · simp only [h2, decide_true, bi, if_true]; omega
    · simp only [h2, decide_false, bi, Bool.false_eq_true, if_false]; omega
  · rw [Nat.min_eq_right (by omega), hb]
    have h3 : c.toNat / 2 ^ k = 0 := Nat.div_eq_of_lt (Nat.lt_of_lt_of_le hc (by show 2 ^ 8 ≤ 2 ^ k; exact Nat.pow_le_pow_right (by omega) (by omega)))
    have h4 : c.toNat / 2 ^ 8 = 0 := Nat.div_eq_of_lt hc
    rw [h3, h4]
    rfl
theorem ref_snoc (r : BitVec 32) (l : List UInt8) (c : UInt8) : ref r (l ++ [c]) = refB (ref r l) c 8 := by simp [ref, List.foldl_append]
theorem wn32' (a : BitVec 32) : IntKind.u32.wrap (n32 a) = n32 a := wn32 a
theorem c_refcrc (b : List UInt8) (hl : b.length < 1000000) : FnOK Try.prog D 16 [(AV.sl .lf (by8 (b)) .ro)] [] (fun r st => r = (AV.sc (.int .u32 (n32 (crc 0#32 b)))) ∧ st = []) := by
  refine fnok_of_W hmix tabOK Try.func16 rfl rfl (Nat.le_of_ble_eq_true rfl) ?_
  conv => whnf
  refine ⟨by rw [by8_len]; simp; omega, ?_⟩
  conv => whnf
  refine ⟨by simp [by8_len]; omega, ?_⟩
  conv => whnf
  generalize ha : b ++ [0, 0, 0, 0] = all
  have hal : all.length = b.length + 4 := by rw [← ha]; simp
  have hA : ∀ x y : List AV, x = [] → y = [.sc (.int .u8 0), .sc (.int .u8 0), .sc (.int .u8 0), .sc (.int .u8 0)] → x ++ by8 b ++ y = by8 all := by
    rintro _ _ rfl rfl
    rw [← ha]
    simp [by8]
  refine ⟨false, [3, 4, 5], fun τ => ∃ i : Nat, i ≤ all.length ∧ τ = ⟨41, [(3, .sc (.int .u64 (n32 (ref 0#32 (all.take i))))), (4, .sl .lf (by8 all) (.own 0)), (5, .sc (.int .i64 (i : Int)))], ⟨[], [0], 1⟩⟩, fun τ => all.length - (slotI τ 5).toNat, ?_, ?_⟩
  · conv => whnf
    refine ⟨0, Nat.zero_le _, ?_⟩
    rw [show (List.replicate 0 (AV.sc (.int .u8 0)) ++ by8 b ++ [.sc (.int .u8 0), .sc (.int .u8 0), .sc (.int .u8 0), .sc (.int .u8 0)]) = by8 all from hA _ _ rfl rfl]
    rfl
  · rintro τ ⟨i, hi, rfl⟩
    conv => whnf
    rw [by8_len]
    refine Branch.of (fun h => ?_) (fun h => ?_) <;> rw [h] <;> conv => whnf
    · simp only [decide_eq_true_eq] at h
      have hi' : i < all.length := by omega
      generalize hr : ref 0#32 (all.take i) = r0
      generalize hc : all[i] = c
      refine ⟨false, [3, 4, 5, 6], fun τ => ∃ (m : Nat) (r : BitVec 32), m ≤ 8 ∧ refB r c m = refB r0 c 8 ∧ τ = ⟨41, [(3, .sc (.int .u64 (n32 r))), (4, .sl .lf (by8 all) (.own 0)), (5, .sc (.int .i64 (i : Int))), (6, .sc (.int .i64 ((m : Int) - 1)))], ⟨[], [0], 1⟩⟩, fun τ => (slotI τ 6 + 1).toNat, ?_, ?_⟩
      · conv => whnf
        exact ⟨8, r0, Nat.le_refl _, rfl, rfl⟩
      · rintro τ ⟨m, r, hm, hr2, rfl⟩
        conv => whnf
        refine Branch.of (fun h2 => ?_) (fun h2 => ?_) <;> rw [h2] <;> conv => whnf
        · simp only [ge_iff_le, decide_eq_true_eq] at h2
          obtain ⟨k, rfl⟩ : ∃ k, m = k + 1 := ⟨m - 1, by omega⟩
          rw [show (((k + 1 : Nat) : Int) - 1) = (k : Int) by omega]
          refine ⟨by omega, .sc (.int .u8 (c.toNat : Int)), by rw [by8, List.getElem?_map, Int.toNat_natCast, List.getElem?_eq_getElem hi', hc]; rfl, ?_⟩
          conv => whnf
          rw [wu64 (x := (k : Int)) (by omega) (by omega)]
          refine ⟨by omega, ?_⟩
          conv => whnf
          refine ⟨by omega, ?_⟩
          conv => whnf
          have hb := bit_at c k
          have hb1 : bi (bit c k) ≤ 1 := by cases bit c k <;> decide
          have hr := r32 r
          rw [Int.toNat_natCast, hb, wu64 (x := n32 r * 2) (by omega) (by omega), wu64 (x := (bi (bit c k) : Int)) (by omega) (by omega), wu64 (x := n32 r * 2 + (bi (bit c k) : Int)) (by omega) (by omega)]
          have hs : refB (refb r (bit c k)) c k = refB r0 c 8 := hr2
          refine Branch.of (fun h4 => ?_) (fun h4 => ?_)
          · conv => whnf
            simp only [ge_iff_le, decide_eq_true_eq] at h4
            rw [refb_high r (bit c k) (by have : n32 r = (r.toNat : Int) := rfl; omega), w64 (x := (k : Int) - 1) (by omega) (by omega)]
            refine ⟨⟨k, refb r (bit c k), by omega, hs, rfl⟩, ?_⟩
            show ((k : Int) - 1 + 1).toNat < ((k : Int) + 1).toNat
            omega
          · conv => whnf
            simp only [ge_iff_le, decide_eq_false_iff_not] at h4
            rw [← refb_low r (bit c k) (by have : n32 r = (r.toNat : Int) := rfl; omega), w64 (x := (k : Int) - 1) (by omega) (by omega)]
            refine ⟨⟨k, refb r (bit c k), by omega, hs, rfl⟩, ?_⟩
            show ((k : Int) - 1 + 1).toNat < ((k : Int) + 1).toNat
            omega
        · simp only [ge_iff_le, decide_eq_false_iff_not] at h2
          have hm0 : m = 0 := by omega
          subst hm0
          rw [w64 (x := (i : Int) + 1) (by omega) (by omega)]
          refine ⟨⟨i + 1, by omega, ?_⟩, ?_⟩
          · have : ref 0#32 (all.take (i + 1)) = r := by
              rw [List.take_succ_eq_append_getElem hi', ref_snoc, hr, hc, ← hr2]
              rfl
            rw [this]
            rfl
          · show all.length - ((i : Int) + 1).toNat < all.length - (i : Int).toNat
            omega
    · simp only [decide_eq_false_iff_not] at h
      have hia : i = all.length := by omega
      subst hia
      rw [List.take_length, ← ha, ref_is, wn32']
      refine ⟨false, [], ?_⟩
      conv => whnf
      refine ⟨?_, rfl⟩
      congr 2
end Go.WL.T1
namespace Go.WL.T1
open Go.WL Go.Proofs
set_option maxRecDepth 20000
set_option maxHeartbeats 2000000
/-- The check of bytes. -/
@[irreducible] def chk (l : List UInt8) : BitVec 32 := crc 0#32 l
theorem chk_eq (l : List UInt8) : crc 0#32 l = chk l := by unfold chk; rfl
theorem c_ref (b : List UInt8) (hl : b.length < 1000000) : FnOK Try.prog D 16 [(AV.sl .lf (by8 (b)) .ro)] [] (fun r st => r = (AV.sc (.int .u32 (n32 (chk b)))) ∧ st = []) := by
  rw [← chk_eq]
  exact c_refcrc b hl
theorem c_crcs (ps : List (List UInt8)) (hl : ps.length < 1000000) (hp : ∀ p ∈ ps, p.length < 1000000000) {xs : List AV} {m : Mark} (hm : m = .ex ∨ m = .ro) (h : Weaks xs (ps.map (fun b => (AV.sl .lf (by8 (b)) .ro)))) : FnOK Try.prog D 17 [.sl .lf xs m] [] (fun r st => r = (AV.sc (.int .u32 (n32 (chk ps.flatten)))) ∧ st = []) := by
  rw [← chk_eq]
  exact (c_crc ps hl hp).weak (.cons (.sl hm h) .nil)
theorem known : crc 0#32 [49, 50, 51, 52, 53, 54, 55, 56, 57] = 0x3010bf7f#32 := by decide +kernel
theorem c_crcawake  : FnOK Try.prog D 15 [] [] (fun r st => r = .sc (.bool true) ∧ st = []) := by
  refine fnok_of_W hmix tabOK Try.func15 rfl rfl (Nat.le_of_ble_eq_true rfl) ?_
  conv => whnf
  refine (c_crcs [[49, 50, 51, 52], [53, 54, 55, 56, 57]] (by decide) (by decide) (.inl rfl) (Weaks.refl _)).mono fun r st e => ?_
  obtain ⟨rfl, rfl⟩ := e
  rw [show chk ([[49, 50, 51, 52], [53, 54, 55, 56, 57]] : List (List UInt8)).flatten = 0x3010bf7f#32 from (chk_eq _).symm.trans known]
  conv => whnf
  refine ⟨false, [], ?_⟩
  conv => whnf
  exact ⟨rfl, rfl⟩
theorem xor8 (a b : UInt8) : IntKind.u8.wrap ((BitVec.ofInt IntKind.u8.bits (a.toNat : Int) ^^^ BitVec.ofInt IntKind.u8.bits (b.toNat : Int)).toNat : Int) = ((a ^^^ b).toNat : Int) := by
  have h1 := (a ^^^ b).toNat_lt
  have e : ∀ c : UInt8, BitVec.ofInt IntKind.u8.bits (c.toNat : Int) = c.toBitVec := by
    intro c
    show BitVec.ofInt 8 (c.toNat : Int) = _
    simp
  rw [e, e]
  exact wu8 (by omega) (by have := (a ^^^ b).toNat_lt; show ((a ^^^ b).toNat : Int) < 256; omega)
theorem by8_take (k : Nat) (b : List UInt8) : (by8 b).take k = by8 (b.take k) := by simp [by8]
theorem by8_drop (k : Nat) (b : List UInt8) : (by8 b).drop k = by8 (b.drop k) := by simp [by8]
theorem by8_cut (k : Nat) (b : List UInt8) : ((by8 b).drop k).take ((by8 b).length - k) = by8 (b.drop k) := by
  rw [by8_drop, by8_take, List.take_of_length_le]
  rw [by8_len, List.length_drop]
  exact Nat.le_refl _
theorem zip_take (f : UInt8 → UInt8 → UInt8) : ∀ l m : List UInt8, List.zipWith f l m = List.zipWith f l (m.take l.length)
  | [], m => by simp
  | x :: l, [] => by simp
  | x :: l, y :: m => by
    simp only [List.length_cons, List.take_succ_cons, List.zipWith_cons_cons]
    rw [← zip_take f l m]
theorem c_crclaw (b c : List UInt8) (at_ : Int) (hb : b.length ≤ maxLen) (hc : c.length ≤ maxLen) (h0 : 0 ≤ at_) (h1 : at_ < 65536) : FnOK Try.prog D 3 [(AV.sl .lf (by8 (b)) .ro), (AV.sl .lf (by8 (c)) .ro), .sc (.int .u16 at_)] [] (fun r _ => r = .sc (.bool true)) := by
  refine fnok_of_W hmix tabOK Try.func3 rfl rfl (Nat.le_of_ble_eq_true rfl) ?_
  conv => whnf
  rw [by8_len]
  refine Branch.of (fun h => ?_) (fun h => ?_) <;> rw [h] <;> conv => whnf
  · refine c_crcawake.mono fun r st e => ?_
    obtain ⟨rfl, rfl⟩ := e
    conv => whnf
    refine ⟨false, [], ?_⟩
    conv => whnf
  simp only [gt_iff_lt, decide_eq_false_iff_not] at h
  rw [by8_len, by8_len]
  refine Branch.of (fun h2 => ?_) (fun h2 => ?_) <;> rw [h2] <;> conv => whnf
  · refine c_crcawake.mono fun r st e => ?_
    obtain ⟨rfl, rfl⟩ := e
    conv => whnf
    refine ⟨false, [], ?_⟩
    conv => whnf
  simp only [decide_eq_false_iff_not] at h2
  rw [by8_len]
  refine Branch.of (fun h3 => ?_) (fun h3 => ?_) <;> rw [h3] <;> conv => whnf
  · refine c_crcawake.mono fun r st e => ?_
    obtain ⟨rfl, rfl⟩ := e
    conv => whnf
    refine ⟨false, [], ?_⟩
    conv => whnf
  simp only [gt_iff_lt, decide_eq_false_iff_not] at h3
  rw [by8_len, w64 (x := at_) (by omega) (by omega), w64 (x := (b.length : Int) + 1) (by omega) (by omega)]
  refine ⟨by omega, ?_⟩
  conv => whnf
  rw [Int.tmod_eq_emod_of_nonneg (by omega)]
  have hk0 := Int.emod_nonneg at_ (show (b.length : Int) + 1 ≠ 0 by omega)
  have hk1 := Int.emod_lt_of_pos at_ (show 0 < (b.length : Int) + 1 by omega)
  generalize hk : at_ % ((b.length : Int) + 1) = k at hk0 hk1
  obtain ⟨k, rfl⟩ := Int.eq_ofNat_of_zero_le hk0
  generalize hz : List.zipWith (fun x y : UInt8 => x ^^^ y) b c = z
  refine ⟨true, [0, 1, 6, 7, 8, 9], fun τ => ∃ i : Nat, i ≤ b.length ∧ τ = ⟨88, [(0, (AV.sl .lf (by8 (b)) .ro)), (1, (AV.sl .lf (by8 (c)) .ro)), (6, .sc (.bool false)), (7, .sc (.int .i64 (k : Int))), (8, .sl .lf (by8 (z.take i)) (.own 0)), (9, .sc (.int .i64 (i : Int)))], ⟨[], [0], 1⟩⟩, fun τ => b.length - (slotI τ 9).toNat, ?_, ?_⟩
  · conv => whnf
    exact ⟨0, Nat.zero_le _, rfl⟩
  · rintro τ ⟨i, hi, rfl⟩
    conv => whnf
    rw [by8_len]
    refine Branch.of (fun h4 => ?_) (fun h4 => ?_) <;> rw [h4] <;> conv => whnf
    · simp only [decide_eq_true_eq] at h4
      have hi' : i < b.length := by omega
      have hi2 : i < c.length := by omega
      refine ⟨tabF3R8, by decide +kernel, ?_⟩
      conv => whnf
      refine ⟨by omega, .sc (.int .u8 (b[i].toNat : Int)), by simp [by8, hi'], ?_⟩
      conv => whnf
      refine ⟨by omega, .sc (.int .u8 (c[i].toNat : Int)), by simp [by8, hi2], ?_⟩
      conv => whnf
      have hzi : i < z.length := by rw [← hz]; simp; omega
      have hx : IntKind.u8.wrap ((BitVec.ofInt IntKind.u8.bits (b[i].toNat : Int) ^^^ BitVec.ofInt IntKind.u8.bits (c[i].toNat : Int)).toNat : Int) = (z[i].toNat : Int) := by
        rw [xor8]
        congr 2
        simp [← hz]
      rw [hx]
      refine ⟨by simp [by8_len]; omega, ?_⟩
      conv => whnf
      rw [w64 (x := (i : Int) + 1) (by omega) (by omega)]
      refine ⟨⟨i + 1, by omega, ?_⟩, ?_⟩
      · rw [List.take_succ_eq_append_getElem hzi]
        simp only [by8, List.map_append]
        rfl
      · show b.length - ((i : Int) + 1).toNat < b.length - (i : Int).toNat
        omega
    · simp only [decide_eq_false_iff_not] at h4
      refine (c_ref b (by omega)).mono fun r st e => ?_
      obtain ⟨rfl, rfl⟩ := e
      conv => whnf
      refine ⟨tabF3R10, by decide +kernel, ?_⟩
      conv => whnf
      refine ⟨_, _, c_crcs [b] (by simp) (by simp; omega) (.inl rfl) (Weaks.refl _), ?_⟩
      conv => whnf
      rw [show [b].flatten = b by simp, show (n32 (chk b) == n32 (chk b)) = true from beq_self_eq_true _]
      conv => whnf
      refine ⟨by omega, ?_⟩
      conv => whnf
      refine ⟨by omega, by rw [by8_len]; omega, ?_⟩
      conv => whnf
      refine ⟨by omega, ?_⟩
      conv => whnf
      refine ⟨by rw [by8_len]; omega, by rw [by8_len]; omega, ?_⟩
      conv => whnf
      rw [Int.toNat_natCast, Nat.sub_zero, List.drop_zero, by8_take k b, by8_cut k b]
      have c3 := c_crcs [b.take k, b.drop k] (by simp) (by simp; omega) (.inl rfl) (Weaks.refl _)
      rw [show [b.take k, b.drop k].flatten = b by simp] at c3
      refine ⟨_, _, c3, ?_⟩
      conv => whnf
      rw [show (n32 (chk b) == n32 (chk b)) = true from beq_self_eq_true _]
      conv => whnf
      have hzl : z.length = b.length := by rw [← hz]; simp; omega
      have c4 := c_crcs [z.take i] (by simp) (by simp; omega) (.inl rfl) (Weaks.refl _)
      rw [show [z.take i].flatten = z by rw [List.flatten_cons, List.flatten_nil, List.append_nil, List.take_of_length_le (by omega)]] at c4
      refine ⟨_, _, c4, ?_⟩
      conv => whnf
      rw [by8_len]
      refine ⟨by omega, by omega, by rw [by8_len]; omega, ?_⟩
      conv => whnf
      rw [Int.toNat_natCast, Nat.sub_zero, List.drop_zero, by8_take b.length c]
      have c5 := c_crcs [c.take b.length] (by simp) (by simp; omega) (.inl rfl) (Weaks.refl _)
      rw [show [c.take b.length].flatten = c.take b.length by simp] at c5
      refine ⟨_, _, c5, ?_⟩
      conv => whnf
      have hx : chk z = chk b ^^^ chk (c.take b.length) := by
        have hz2 : z = List.zipWith (fun x y : UInt8 => x ^^^ y) b (c.take b.length) := by
          rw [← hz, zip_take]
        have := crc_xor b (c.take b.length) 0#32 0#32 (by simp; omega)
        rw [← chk_eq, ← chk_eq, ← chk_eq, hz2, ← this]
        congr 1
      rw [xor32 (chk b) (chk (c.take b.length)), ← hx, show (n32 (chk z) == n32 (chk z)) = true from beq_self_eq_true _]
      conv => whnf
      refine ⟨_, _, c_crcawake, ?_⟩
      conv => whnf
      refine ⟨false, [], ?_⟩
      conv => whnf
end Go.WL.T1
namespace Go.WL.T1
open Go.WL Go.Proofs
set_option maxRecDepth 20000
set_option maxHeartbeats 4000000
theorem len8 (b : List UInt8) : (by8 b).length = b.length := by simp [by8]
theorem at8 {b : List UInt8} {i : Nat} (h : i < b.length) : (by8 b)[((i : Nat) : Int).toNat]? = some ((AV.sc (.int .u8 ((b[i].toNat : Int))))) := by simp [by8, h]
theorem ne8 (x y : UInt8) : (((x.toNat : Nat) : Int) != ((y.toNat : Nat) : Int)) = (x != y) := by
  by_cases h : x = y
  · subst h; simp
  · have : ((x.toNat : Nat) : Int) ≠ ((y.toNat : Nat) : Int) := fun e => h (UInt8.toNat_inj.1 (by omega))
    rw [bne_iff_ne .. |>.2 this, bne_iff_ne .. |>.2 h]
theorem c_same0 (a b : List UInt8) (ha : a.length < 9223372036854775807) : FnOK Try.prog D 30 [(AV.sl .lf (by8 (a)) .ro), (AV.sl .lf (by8 (b)) .ro)] [] (fun r st => r = (AV.sc (.bool (a == b))) ∧ st = []) := by
  refine fnok_of_W hmix tabOK Try.func30 rfl rfl (Nat.le_of_ble_eq_true rfl) ?_
  conv => whnf
  rw [len8, len8]
  refine Branch.of (fun h => ?_) (fun h => ?_) <;> rw [h] <;> conv => whnf
  · refine ⟨false, [], ?_⟩
    conv => whnf
    refine ⟨?_, rfl⟩
    have hne : a.length ≠ b.length := by
      simp only [bne_iff_ne, ne_eq] at h
      omega
    rw [show (a == b) = false from beq_eq_false_iff_ne.2 fun e => hne (by rw [e])]
  have hl : a.length = b.length := by
    simp only [bne_eq_false_iff_eq] at h
    omega
  refine ⟨false, [0, 1, 5], fun τ => ∃ i : Nat, i ≤ a.length ∧ a.take i = b.take i ∧ τ = ⟨26, [(0, (AV.sl .lf (by8 (a)) .ro)), (1, (AV.sl .lf (by8 (b)) .ro)), (5, (AV.sc (.int .i64 ((i : Int)))))], ⟨[], [], 0⟩⟩, fun τ => a.length - (slotI τ 5).toNat, ?_, ?_⟩
  · conv => whnf
    exact ⟨0, Nat.zero_le _, by simp, rfl⟩
  · rintro τ ⟨i, i1, i2, rfl⟩
    conv => whnf
    rw [len8]
    refine Branch.of (fun h2 => ?_) (fun h2 => ?_) <;> rw [h2] <;> conv => whnf
    · simp only [decide_eq_true_eq] at h2
      have ia : i < a.length := by omega
      have ib : i < b.length := by omega
      refine ⟨tabF30R6, by decide +kernel, ?_⟩
      conv => whnf
      refine ⟨by omega, _, at8 ia, ?_⟩
      conv => whnf
      refine ⟨by omega, _, at8 ib, ?_⟩
      conv => whnf
      rw [ne8]
      generalize hx : a[i] = x
      generalize hy : b[i] = y
      refine Branch.of (fun h3 => ?_) (fun h3 => ?_) <;> rw [h3] <;> conv => whnf
      · refine ⟨false, [], ?_⟩
        conv => whnf
        refine ⟨?_, rfl⟩
        have hne : a ≠ b := by
          intro e
          subst e
          rw [hx] at hy
          subst hy
          simp at h3
        rw [show (a == b) = false from beq_eq_false_iff_ne.2 hne]
      · rw [w64 (x := (i : Int) + 1) (by omega) (by omega)]
        refine ⟨⟨i + 1, by omega, ?_, rfl⟩, ?_⟩
        · rw [List.take_succ_eq_append_getElem ia, List.take_succ_eq_append_getElem ib, i2, hx, hy]
          simp only [bne_eq_false_iff_eq] at h3
          rw [h3]
        · show a.length - ((i : Int) + 1).toNat < a.length - (i : Int).toNat
          omega
    · simp only [decide_eq_false_iff_not] at h2
      refine ⟨false, [], ?_⟩
      conv => whnf
      refine ⟨?_, rfl⟩
      have e : i = a.length := by omega
      subst e
      rw [List.take_length, hl, List.take_length] at i2
      rw [i2, beq_self_eq_true]
theorem c_same (a b : List UInt8) (ha : a.length < 9223372036854775807) {m1 m2 : Mark} (h1 : m1 = .ex ∨ m1 = .ro) (h2 : m2 = .ex ∨ m2 = .ro) : FnOK Try.prog D 30 [.sl .lf (by8 a) m1, .sl .lf (by8 b) m2] [] (fun r st => r = (AV.sc (.bool (a == b))) ∧ st = []) :=
  (c_same0 a b ha).weak (.cons (.sl h1 (Weaks.refl _)) (.cons (.sl h2 (Weaks.refl _)) .nil))
theorem c_clone0 (b : List UInt8) (hb : b.length < 4294967296) : FnOK Try.prog D 66 [(AV.sl .lf (by8 (b)) .ro)] [] (fun r st => r = (AV.sl .lf (by8 (b)) (.own 0)) ∧ st = []) := by
  refine fnok_of_W hmix tabOK Try.func66 rfl rfl (Nat.le_of_ble_eq_true rfl) ?_
  conv => whnf
  intro nl hnl
  conv => whnf
  refine Branch.of (fun h => ?_) (fun h => ?_) <;> rw [h] <;> conv => whnf
  · have hb0 : b = [] := by
      by_cases c : by8 b = []
      · simpa [by8] using c
      · rw [hnl c] at h; exact absurd h (by simp)
    subst hb0
    refine ⟨true, [], ?_⟩
    conv => whnf
    exact ⟨rfl, rfl⟩
  · refine ⟨by rw [len8]; simp; omega, ?_⟩
    conv => whnf
    refine ⟨false, [], ?_⟩
    conv => whnf
    exact ⟨rfl, rfl⟩
end Go.WL.T1
namespace Go.WL.T1
open Go.WL Go.Proofs
set_option maxRecDepth 20000
set_option maxHeartbeats 4000000
theorem c_clone (b : List UInt8) (hb : b.length < 4294967296) {m : Mark} (h : m = .ex ∨ m = .ro) : FnOK Try.prog D 66 [.sl .lf (by8 b) m] [] (fun r st => r = (AV.sl .lf (by8 (b)) (.own 0)) ∧ st = []) :=
  (c_clone0 b hb).weak (.cons (.sl h (Weaks.refl _)) .nil)
/-- A number's bytes. -/
def num (n : Nat) : List UInt8 := if n < 128 then [UInt8.ofNat n] else UInt8.ofNat (128 + n % 128) :: num (n / 128)
termination_by n
decreasing_by omega
theorem num_low {n : Nat} (h : n < 128) : num n = [UInt8.ofNat n] := by rw [num, if_pos h]
theorem num_high {n : Nat} (h : ¬ n < 128) : num n = UInt8.ofNat (128 + n % 128) :: num (n / 128) := by rw [num, if_neg h]
theorem num_len : ∀ (k n : Nat), n < 128 ^ k → 0 < k → (num n).length ≤ k
  | 0, n, _, hk => absurd hk (by omega)
  | k + 1, n, h, _ => by
    by_cases c : n < 128
    · rw [num_low c]; simp
    · rw [num_high c, List.length_cons]
      have hk : 0 < k := by
        cases k with
        | zero => rw [Nat.zero_add, Nat.pow_one] at h; omega
        | succ k => omega
      have : n / 128 < 128 ^ k := by
        rw [Nat.pow_succ] at h
        exact Nat.div_lt_of_lt_mul (by rw [Nat.mul_comm]; exact h)
      have := num_len k (n / 128) this hk
      omega
theorem num_ten {n : Nat} (h : n < 18446744073709551616) : (num n).length ≤ 10 := num_len 10 n (Nat.lt_of_lt_of_le h (by decide)) (by decide)
theorem sc8 {n : Nat} (h : n < 256) : (AV.sc (.int .u8 ((n : Nat) : Int))) = AV.sc (.int .u8 (((UInt8.ofNat n).toNat : Nat) : Int)) := by
  congr 3
  simp
  omega
theorem w8n {n : Nat} (h : n < 256) : IntKind.u8.wrap ((n : Nat) : Int) = ((n : Nat) : Int) := wu8 (by omega) (by omega)
theorem c_refnum (n : Nat) (hn : n < 18446744073709551616) : FnOK Try.prog D 67 [(AV.sc (.int .u64 ((n : Int))))] [] (fun r st => r = (AV.sl .lf (by8 (num n)) (.own 0)) ∧ st = []) := by
  induction n using Nat.strongRecOn with
  | ind n ih =>
  refine fnok_of_W hmix tabOK Try.func67 rfl rfl (Nat.le_of_ble_eq_true rfl) ?_
  conv => whnf
  refine Branch.of (fun h => ?_) (fun h => ?_) <;> rw [h] <;> conv => whnf
  · simp only [decide_eq_true_eq] at h
    have h' : n < 128 := by omega
    rw [w8n (n := n) (by omega), sc8 (n := n) (by omega)]
    refine ⟨true, [], ?_⟩
    conv => whnf
    refine ⟨?_, rfl⟩
    rw [num_low h']
    rfl
  · simp only [decide_eq_false_iff_not] at h
    have h' : ¬ n < 128 := by omega
    refine ⟨by omega, ?_⟩
    conv => whnf
    refine ⟨by omega, ?_⟩
    conv => whnf
    rw [Int.tdiv_eq_ediv_of_nonneg (by omega), Int.tmod_eq_emod_of_nonneg (by omega), show ((n : Int) / 128) = ((n / 128 : Nat) : Int) by omega, wu64 (x := ((n / 128 : Nat) : Int)) (by omega) (by omega)]
    refine (ih (n / 128) (by omega) (by omega)).mono fun r st e => ?_
    obtain ⟨rfl, rfl⟩ := e
    conv => whnf
    have hl := num_ten (n := n / 128) (by omega)
    refine ⟨by rw [len8]; simp; omega, ?_⟩
    conv => whnf
    refine ⟨false, [], ?_⟩
    conv => whnf
    refine ⟨?_, rfl⟩
    rw [show (128 + (n : Int) % 128) = ((128 + n % 128 : Nat) : Int) by omega, wu64 (x := ((128 + n % 128 : Nat) : Int)) (by omega) (by omega), w8n (n := 128 + n % 128) (by omega), sc8 (n := 128 + n % 128) (by omega), num_high h']
    rfl
theorem or8 {n : Nat} : IntKind.u8.wrap ((BitVec.ofInt IntKind.u8.bits (IntKind.u8.wrap ((n : Nat) : Int)) ||| BitVec.ofInt IntKind.u8.bits 128).toNat : Int) = ((128 + n % 128 : Nat) : Int) := by
  have each : ∀ c, c < 256 → (BitVec.ofInt 8 ((c : Nat) : Int) ||| BitVec.ofInt 8 128).toNat = 128 + c % 128 := by decide +kernel
  have e : IntKind.u8.wrap ((n : Nat) : Int) = ((n % 256 : Nat) : Int) := by
    simp [IntKind.wrap, IntKind.signed, IntKind.bits]
  rw [e]
  show IntKind.u8.wrap ((BitVec.ofInt 8 ((n % 256 : Nat) : Int) ||| BitVec.ofInt 8 128).toNat : Int) = _
  rw [each (n % 256) (by omega), w8n (by omega)]
  omega
theorem snoc8 (b : List UInt8) {n : Nat} (h : n < 256) : by8 b ++ [AV.sc (.int .u8 ((n : Nat) : Int))] = by8 (b ++ [UInt8.ofNat n]) := by
  rw [sc8 h]; simp [by8]
theorem c_num (b : List UInt8) (n : Nat) (hb : b.length < 4000000000) (hn : n < 18446744073709551616) {m : Mark} (hm : m = .ex ∨ m = .ro) : FnOK Try.prog D 29 [.sl .lf (by8 b) m, (AV.sc (.int .u64 ((n : Int))))] [] (fun r st => r = (AV.sl .lf (by8 (b ++ num n)) (.own 0)) ∧ st = []) := by
  suffices h : FnOK Try.prog D 29 [(AV.sl .lf (by8 (b)) .ro), (AV.sc (.int .u64 ((n : Int))))] [] (fun r st => r = (AV.sl .lf (by8 (b ++ num n)) (.own 0)) ∧ st = []) from h.weak (.cons (.sl hm (Weaks.refl _)) (.cons (.refl _) .nil))
  refine fnok_of_W hmix tabOK Try.func29 rfl rfl (Nat.le_of_ble_eq_true rfl) ?_
  conv => whnf
  refine (c_clone0 b (by omega)).mono fun r st e => ?_
  obtain ⟨rfl, rfl⟩ := e
  conv => whnf
  have hten := num_ten hn
  refine ⟨false, [1, 5], fun τ => ∃ (k : Nat) (p : List UInt8), p ++ num k = num n ∧ k ≤ n ∧ τ = ⟨23, [(1, (AV.sc (.int .u64 ((k : Int))))), (5, (AV.sl .lf (by8 (b ++ p)) (.own 0)))], ⟨[], [0], 1⟩⟩, fun τ => (slotI τ 1).toNat, ?_, ?_⟩
  · conv => whnf
    exact ⟨n, [], rfl, Nat.le_refl _, by rw [List.append_nil]; rfl⟩
  · rintro τ ⟨k, p, k1, k2, rfl⟩
    have hp : p.length ≤ 10 := by
      have := congrArg List.length k1
      simp at this
      omega
    conv => whnf
    refine Branch.of (fun h => ?_) (fun h => ?_) <;> rw [h] <;> conv => whnf
    · simp only [ge_iff_le, decide_eq_true_eq] at h
      have h' : ¬ k < 128 := by omega
      refine ⟨by rw [len8]; simp; omega, ?_⟩
      conv => whnf
      refine ⟨by omega, ?_⟩
      conv => whnf
      rw [or8 (n := k), snoc8 (b ++ p) (n := 128 + k % 128) (by omega)]
      have hd : Int.fdiv (k : Int) (2 ^ min (Int.toNat 7) IntKind.u64.bits) = ((k / 128 : Nat) : Int) := by
        rw [show ((2 : Int) ^ min (Int.toNat 7) IntKind.u64.bits) = 128 from rfl, Int.fdiv_eq_ediv_of_nonneg _ (by decide)]
        omega
      rw [hd]
      refine ⟨⟨k / 128, p ++ [UInt8.ofNat (128 + k % 128)], ?_, by omega, by rw [List.append_assoc]⟩, ?_⟩
      · rw [List.append_assoc, ← k1, num_high h']
        rfl
      · show (((k / 128 : Nat) : Int)).toNat < (k : Int).toNat
        omega
    · simp only [ge_iff_le, decide_eq_false_iff_not] at h
      have h' : k < 128 := by omega
      refine ⟨by rw [len8]; simp; omega, ?_⟩
      conv => whnf
      rw [w8n (n := k) (by omega), snoc8 (b ++ p) (n := k) (by omega)]
      refine ⟨false, [], ?_⟩
      conv => whnf
      refine ⟨?_, rfl⟩
      rw [List.append_assoc, ← num_low h', k1]
theorem min64 (a b : Nat) : (if ((a : Nat) : Int) ≤ ((b : Nat) : Int) then ((a : Nat) : Int) else ((b : Nat) : Int)) = ((min a b : Nat) : Int) := by
  split <;> omega
theorem by8_app (a b : List UInt8) : by8 a ++ by8 b = by8 (a ++ b) := by simp [by8]
theorem cut_text (t : List UInt8) : t.take (min t.length 65536) = t.take 65536 := by
  by_cases h : t.length ≤ 65536
  · rw [Nat.min_eq_left h, List.take_of_length_le (Nat.le_refl _), List.take_of_length_le h]
  · rw [Nat.min_eq_right (by omega)]
theorem c_text0 (b t : List UInt8) (hb : b.length < 3000000000) (ht : t.length < 9223372036854775807) : FnOK Try.prog D 28 [(AV.sl .lf (by8 (b)) .ro), (AV.sl .lf (by8 (t)) .ro)] [] (fun r st => r = (AV.sl .lf (by8 (b ++ (num (t.take 65536).length ++ t.take 65536))) (.own 0)) ∧ st = []) := by
  refine fnok_of_W hmix tabOK Try.func28 rfl rfl (Nat.le_of_ble_eq_true rfl) ?_
  conv => whnf
  rw [len8, show min ((t.length : Nat) : Int) 65536 = ((min t.length 65536 : Nat) : Int) by omega]
  refine ⟨by omega, ?_⟩
  conv => whnf
  refine ⟨by omega, by omega, ?_⟩
  conv => whnf
  rw [Int.toNat_natCast, Nat.sub_zero, List.drop_zero, by8_take, cut_text]
  have hl : (t.take 65536).length ≤ 65536 := by simp; omega
  generalize t.take 65536 = u at hl
  rw [len8, wu64 (x := ((u.length : Nat) : Int)) (by omega) (by omega)]
  refine (c_num b u.length (by omega) (by omega) (.inr rfl)).mono fun r st e => ?_
  obtain ⟨rfl, rfl⟩ := e
  conv => whnf
  have hn := num_ten (n := u.length) (by omega)
  refine ⟨by rw [len8, len8]; simp; omega, ?_⟩
  conv => whnf
  rw [by8_app]
  refine ⟨false, [], ?_⟩
  conv => whnf
  exact ⟨by rw [List.append_assoc], rfl⟩
theorem c_hash0 (b h : List UInt8) (hb : b.length < 3000000000) (hh : h.length = 32) : FnOK Try.prog D 27 [(AV.sl .lf (by8 (b)) .ro), .ar 32 .lf (by8 h)] [] (fun r st => r = (AV.sl .lf (by8 (b ++ h)) (.own 0)) ∧ st = []) := by
  refine fnok_of_W hmix tabOK Try.func27 rfl rfl (Nat.le_of_ble_eq_true rfl) ?_
  conv => whnf
  refine ⟨tabF27R1, by decide +kernel, ?_⟩
  conv => whnf
  refine ⟨_, _, c_clone0 b (by omega), ?_⟩
  conv => whnf
  refine ⟨by omega, by omega, ?_⟩
  conv => whnf
  rw [show List.take (32 - 0) (List.drop 0 (by8 h)) = by8 h by rw [List.drop_zero, List.take_of_length_le (by rw [len8]; omega)], by8_app]
  refine ⟨by rw [len8, len8]; omega, ?_⟩
  conv => whnf
  refine ⟨false, [], ?_⟩
  conv => whnf
  exact ⟨rfl, rfl⟩
theorem c_reftext0 (t : List UInt8) (ht : t.length < 4000000000) : FnOK Try.prog D 68 [(AV.sl .lf (by8 (t)) .ro)] [] (fun r st => r = (AV.sl .lf (by8 (num t.length ++ t)) (.own 0)) ∧ st = []) := by
  refine fnok_of_W hmix tabOK Try.func68 rfl rfl (Nat.le_of_ble_eq_true rfl) ?_
  conv => whnf
  rw [len8, wu64 (x := ((t.length : Nat) : Int)) (by omega) (by omega)]
  refine (c_refnum t.length (by omega)).mono fun r st e => ?_
  obtain ⟨rfl, rfl⟩ := e
  conv => whnf
  have hn := num_ten (n := t.length) (by omega)
  refine ⟨by rw [len8, len8]; omega, ?_⟩
  conv => whnf
  rw [by8_app]
  refine ⟨false, [], ?_⟩
  conv => whnf
  exact ⟨rfl, rfl⟩
end Go.WL.T1
namespace Go.WL.T1
open Go.WL Go.Proofs
set_option maxRecDepth 20000
set_option maxHeartbeats 4000000
theorem c_grow0 : FnOK Try.prog D 90 [.sl .lf [] .ex, (AV.sc (.int .i64 (0)))] [] (fun r st => r = .sl .lf [] .ex ∧ st = []) := by
  refine fnok_of_W hmix tabOK Try.func90 rfl rfl (Nat.le_of_ble_eq_true rfl) ?_
  conv => whnf
  refine ⟨false, [], ?_⟩
  conv => whnf
  exact ⟨rfl, rfl⟩
theorem c_grow (n : Nat) (h0 : 0 < n) (hn : n < 4294967296) : FnOK Try.prog D 90 [.sl .lf [] .ex, (AV.sc (.int .i64 ((n : Int))))] [] (fun r st => ∃ cap zs, n ≤ cap ∧ zs.length = cap ∧ r = .bs 0 [] .lf 0 0 cap ∧ st = [.ar cap .lf zs]) := by
  refine fnok_of_Ws [20, 22] hmix tabOK Try.func90 rfl rfl (Nat.le_of_ble_eq_true rfl) ?_
  conv => whnf
  rw [show IntKind.i64.wrap ((n : Int) - IntKind.i64.wrap ((([] : List AV).length : Int) - (([] : List AV).length : Int))) = (n : Int) by
    rw [show ((([] : List AV).length : Int) - (([] : List AV).length : Int)) = 0 from rfl, w64 (x := 0) (by omega) (by omega), w64 (by omega) (by omega)]; omega]
  refine Branch.of (fun h1 => ?_) (fun h1 => ?_) <;> rw [h1] <;> conv => whnf
  rotate_left
  · simp only [gt_iff_lt, decide_eq_false_iff_not] at h1
    omega
  refine ⟨by omega, rfl, ?_⟩
  conv => whnf
  refine ⟨by omega, by omega, Branch.yes (b := Nat.blt 0 (List.replicate (n : Int).toNat (AV.sc (.int .u8 0))).length) (by rw [List.length_replicate, Int.toNat_natCast]; simpa [Nat.blt_eq] using h0) ?_⟩
  refine ⟨by rw [List.length_replicate]; simp; omega, fun cap hc => ?_⟩
  rw [List.length_replicate] at hc
  conv => whnf
  refine ⟨Int.natCast_nonneg _, Nat.zero_le _, Nat.zero_le _, ?_⟩
  conv => whnf
  refine ⟨false, [0], ?_⟩
  conv => whnf
  refine ⟨cap, _, ?_, ?_, rfl, rfl⟩
  · simp at hc; omega
  · simp at hc ⊢; omega
def tot (ps : List (List UInt8)) : Nat := (ps.map List.length).sum
theorem tot_flat (ps : List (List UInt8)) : ps.flatten.length = tot ps := by simp [tot, List.length_flatten]
theorem tot_snoc (ps : List (List UInt8)) (i : Nat) (h : i < ps.length) : tot (ps.take (i + 1)) = tot (ps.take i) + ps[i].length := by
  rw [List.take_succ_eq_append_getElem h]
  unfold tot
  rw [List.map_append, List.sum_append]
  simp
theorem tot_le (ps : List (List UInt8)) (i : Nat) : tot (ps.take i) ≤ tot ps := by
  conv => rhs; rw [← List.take_append_drop i ps]
  unfold tot
  rw [List.map_append, List.sum_append]
  exact Nat.le_add_right _ _
theorem ro_at {ps : List (List UInt8)} {i : Nat} (h : i < ps.length) : (ps.map fun b => (AV.sl .lf (by8 (b)) .ro))[((i : Nat) : Int).toNat]? = some (AV.sl .lf (by8 (ps[i])) .ro) := by simp [h]
theorem c_concat (ps : List (List UInt8)) (hl : ps.length < 1000000) (ht : tot ps < 1000000000) : FnOK Try.prog D 70 [.sl .lf (ps.map (fun b => (AV.sl .lf (by8 (b)) .ro))) .ro] [] (fun r st => r = (AV.sl .lf (by8 (ps.flatten)) .ro) ∧ st = []) := by
  refine fnok_of_Ws [33] hmix tabOK Try.func70 rfl rfl (Nat.le_of_ble_eq_true rfl) ?_
  conv => whnf
  refine ⟨false, [0, 3, 9, 10, 11], fun τ => ∃ i : Nat, i ≤ ps.length ∧ τ = ⟨36, [(0, .sl .lf (ps.map fun b => (AV.sl .lf (by8 (b)) .ro)) .ro), (3, (AV.sc (.int .i64 ((tot (ps.take i) : Int))))), (9, .sl .lf (ps.map fun b => (AV.sl .lf (by8 (b)) .ro)) .ro), (10, (AV.sc (.int .i64 ((ps.length : Int))))), (11, (AV.sc (.int .i64 ((i : Int)))))], ⟨[], [], 0⟩⟩, fun τ => ps.length - (slotI τ 11).toNat, ?_, ?_⟩
  · conv => whnf
    rw [List.length_map]
    exact ⟨0, by omega, rfl⟩
  rintro τ ⟨i, hi, rfl⟩
  conv => whnf
  refine Branch.of (fun h3 => ?_) (fun h3 => ?_) <;> rw [h3] <;> conv => whnf
  · simp only [decide_eq_true_eq] at h3
    have ih : i < ps.length := by omega
    have t1 := tot_snoc ps i ih
    have t2 := tot_le ps (i + 1)
    refine ⟨by omega, _, ro_at ih, ?_⟩
    conv => whnf
    rw [len8, w64 (x := (tot (ps.take i) : Int) + (ps[i].length : Int)) (by omega) (by omega)]
    conv => whnf
    rw [w64 (x := (i : Int) + 1) (by omega) (by omega)]
    refine ⟨⟨i + 1, by omega, ?_⟩, ?_⟩
    · rw [t1]
      rfl
    · show ps.length - ((i : Int) + 1).toNat < ps.length - (i : Int).toNat
      omega
  simp only [decide_eq_false_iff_not] at h3
  have e : i = ps.length := by omega
  subst e
  rw [List.take_length]
  by_cases h0 : tot ps = 0
  · rw [h0]
    refine c_grow0.mono fun r st e => ?_
    obtain ⟨rfl, rfl⟩ := e
    conv => whnf
    have hall : ∀ i (h : i < ps.length), ps[i] = [] := by
      intro i h
      have t1 := tot_snoc ps i h
      have t2 := tot_le ps (i + 1)
      exact List.eq_nil_of_length_eq_zero (by omega)
    refine ⟨false, [6, 25, 26, 27], fun τ => ∃ i : Nat, i ≤ ps.length ∧ τ = ⟨36, [(6, .sl .lf [] .ex), (25, .sl .lf (ps.map fun b => (AV.sl .lf (by8 (b)) .ro)) .ro), (26, (AV.sc (.int .i64 ((ps.length : Int))))), (27, (AV.sc (.int .i64 ((i : Int)))))], ⟨[], [], 0⟩⟩, fun τ => ps.length - (slotI τ 27).toNat, ?_, ?_⟩
    · conv => whnf
      rw [List.length_map]
      exact ⟨0, by omega, rfl⟩
    rintro τ ⟨i, hi, rfl⟩
    conv => whnf
    refine Branch.of (fun h4 => ?_) (fun h4 => ?_) <;> rw [h4] <;> conv => whnf
    · simp only [decide_eq_true_eq] at h4
      have ih : i < ps.length := by omega
      refine ⟨by omega, _, ro_at ih, ?_⟩
      rw [hall i ih]
      conv => whnf
      rw [w64 (x := (i : Int) + 1) (by omega) (by omega)]
      refine ⟨⟨i + 1, by omega, rfl⟩, ?_⟩
      show ps.length - ((i : Int) + 1).toNat < ps.length - (i : Int).toNat
      omega
    · refine ⟨false, [999], ?_⟩
      conv => whnf
      have hf : ps.flatten.length = 0 := by rw [tot_flat]; exact h0
      rw [List.eq_nil_of_length_eq_zero hf]
      exact ⟨rfl, rfl⟩
  · refine (c_grow (tot ps) (by omega) (by omega)).mono fun r st e => ?_
    obtain ⟨cap, zs, hc, hz, rfl, rfl⟩ := e
    conv => whnf
    refine ⟨false, [6, 25, 26, 27], fun τ => ∃ (i : Nat) (zs : List AV), i ≤ ps.length ∧ zs.length = cap ∧ zs.take (tot (ps.take i)) = by8 (ps.take i).flatten ∧ τ = ⟨36, [(6, .bs 0 [] .lf 0 (tot (ps.take i)) cap), (25, .sl .lf (ps.map fun b => (AV.sl .lf (by8 (b)) .ro)) .ro), (26, (AV.sc (.int .i64 ((ps.length : Int))))), (27, (AV.sc (.int .i64 ((i : Int)))))], ⟨[(.ar cap .lf zs, false)], [], 0⟩⟩, fun τ => ps.length - (slotI τ 27).toNat, ?_, ?_⟩
    · conv => whnf
      rw [List.length_map]
      exact ⟨0, zs, by omega, hz, by simp [tot, by8], rfl⟩
    rintro τ ⟨i, zs, hi, hz, hzs, rfl⟩
    conv => whnf
    refine Branch.of (fun h4 => ?_) (fun h4 => ?_) <;> rw [h4] <;> conv => whnf
    · simp only [decide_eq_true_eq] at h4
      have ih : i < ps.length := by omega
      have t1 := tot_snoc ps i ih
      have t2 := tot_le ps (i + 1)
      refine ⟨by omega, _, ro_at ih, ?_⟩
      conv => whnf
      refine Branch.yes (b := Nat.ble (tot (ps.take i) + (by8 ps[i]).length) cap) (Nat.ble_eq_true_of_le (by rw [len8]; omega)) ?_
      conv => whnf
      rw [len8]
      rw [w64 (x := (i : Int) + 1) (by omega) (by omega)]
      refine ⟨⟨i + 1, zs.take (0 + tot (ps.take i)) ++ by8 ps[i] ++ zs.drop (0 + tot (ps.take i) + ps[i].length), by omega, ?_, ?_, ?_⟩, ?_⟩
      rotate_left 2
      · rw [t1]
        rfl
      · show ps.length - ((i : Int) + 1).toNat < ps.length - (i : Int).toNat
        omega
      · simp only [List.length_append, List.length_take, List.length_drop, len8]
        omega
      · rw [t1, Nat.zero_add, hzs, List.take_succ_eq_append_getElem ih, List.flatten_append, by8_app]
        rw [List.take_append_of_le_length (by rw [len8, List.length_append, tot_flat]; omega), List.take_of_length_le (by rw [len8, List.length_append, tot_flat]; omega)]
        simp
    · simp only [decide_eq_false_iff_not] at h4
      have e : i = ps.length := by omega
      subst e
      rw [List.take_length] at hzs ⊢
      refine ⟨false, [999], ?_⟩
      conv => whnf
      refine ⟨?_, rfl⟩
      congr 1
end Go.WL.T1
namespace Go.WL.T1
open Go.WL Go.Proofs
set_option maxRecDepth 20000
set_option maxHeartbeats 4000000
/-- A number's four bytes. -/
def b4 (n : Nat) : List UInt8 := [UInt8.ofNat (n / 16777216), UInt8.ofNat (n / 65536), UInt8.ofNat (n / 256), UInt8.ofNat n]
/-- The number that four bytes are. -/
def n4 (a b c d : UInt8) : Nat := a.toNat * 16777216 + b.toNat * 65536 + c.toNat * 256 + d.toNat
theorem b4_len (n : Nat) : (b4 n).length = 4 := rfl
theorem n4_lt (a b c d : UInt8) : n4 a b c d < 4294967296 := by
  have h1 := a.toNat_lt
  have h2 := b.toNat_lt
  have h3 := c.toNat_lt
  have h4 := d.toNat_lt
  unfold n4
  omega
theorem b4_n4 (a b c d : UInt8) : b4 (n4 a b c d) = [a, b, c, d] := by
  have h1 := a.toNat_lt
  have h2 := b.toNat_lt
  have h3 := c.toNat_lt
  have h4 := d.toNat_lt
  have e : ∀ (x : UInt8) (k : Nat), k % 256 = x.toNat → UInt8.ofNat k = x := by
    intro x k h
    apply UInt8.toNat_inj.1
    simp [h]
  unfold b4 n4
  rw [e a, e b, e c, e d] <;> omega
theorem n4_b4 (n : Nat) (h : n < 4294967296) : n4 (UInt8.ofNat (n / 16777216)) (UInt8.ofNat (n / 65536)) (UInt8.ofNat (n / 256)) (UInt8.ofNat n) = n := by
  unfold n4
  simp
  omega
theorem fd (n k : Nat) : Int.fdiv ((n : Nat) : Int) ((k : Nat) : Int) = ((n / k : Nat) : Int) := by
  rw [Int.fdiv_eq_ediv_of_nonneg _ (by omega)]
  omega
theorem w8m (n : Nat) : IntKind.u8.wrap ((n : Nat) : Int) = ((UInt8.ofNat n).toNat : Int) := by
  simp only [IntKind.wrap, IntKind.signed, IntKind.bits]
  simp
theorem or32n (x k y : Nat) (hy : y < 2 ^ k) (hs : x * 2 ^ k + y < 4294967296) : IntKind.u32.wrap ((BitVec.ofInt IntKind.u32.bits ((x * 2 ^ k : Nat) : Int) ||| BitVec.ofInt IntKind.u32.bits ((y : Nat) : Int)).toNat : Int) = ((x * 2 ^ k + y : Nat) : Int) := by
  have e : (BitVec.ofInt IntKind.u32.bits ((x * 2 ^ k : Nat) : Int) ||| BitVec.ofInt IntKind.u32.bits ((y : Nat) : Int)).toNat = x * 2 ^ k + y := by
    rw [BitVec.toNat_or, BitVec.ofInt_natCast, BitVec.ofInt_natCast, BitVec.toNat_ofNat, BitVec.toNat_ofNat, show (2 : Nat) ^ IntKind.u32.bits = 4294967296 from by decide, Nat.mod_eq_of_lt (by omega), Nat.mod_eq_of_lt (by omega), Nat.mul_comm, ← Nat.two_pow_add_eq_or_of_lt hy, Nat.mul_comm]
  rw [e]
  exact wu32 (by omega) (by omega)
theorem sh32 (x k : Nat) (hk : k ≤ 32) (h : x * 2 ^ k < 4294967296) : IntKind.u32.wrap (((x : Nat) : Int) * 2 ^ min (Int.toNat (k : Int)) IntKind.u32.bits) = ((x * 2 ^ k : Nat) : Int) := by
  rw [Int.toNat_natCast, show min k IntKind.u32.bits = k from Nat.min_eq_left hk]
  rw [show ((x : Nat) : Int) * 2 ^ k = ((x * 2 ^ k : Nat) : Int) by simp]
  exact wu32 (by omega) (by omega)
theorem c_four (n : Nat) : FnOK Try.prog D 69 [(AV.sc (.int .u32 ((n : Int))))] [] (fun r st => r = (AV.sl .lf (by8 (b4 n)) .ex) ∧ st = []) := by
  refine fnok_of_W hmix tabOK Try.func69 rfl rfl (Nat.le_of_ble_eq_true rfl) ?_
  conv => whnf
  repeat (refine And.intro (by first | decide | omega) ?_; conv => whnf)
  refine ⟨false, [], ?_⟩
  conv => whnf
  refine ⟨?_, rfl⟩
  congr 1
  have e24 : (2 : Int) ^ min (Int.toNat 24) IntKind.u32.bits = ((16777216 : Nat) : Int) := by decide
  have e16 : (2 : Int) ^ min (Int.toNat 16) IntKind.u32.bits = ((65536 : Nat) : Int) := by decide
  have e8 : (2 : Int) ^ min (Int.toNat 8) IntKind.u32.bits = ((256 : Nat) : Int) := by decide
  rw [e24, e16, e8, fd, fd, fd, w8m, w8m, w8m, w8m]
  rfl
theorem c_number (a b c d : UInt8) (l : List UInt8) : FnOK Try.prog D 71 [(AV.sl .lf (by8 (a :: b :: c :: d :: l)) .ro)] [] (fun r st => r = (AV.sc (.int .u32 ((n4 a b c d : Int)))) ∧ st = []) := by
  refine fnok_of_W hmix tabOK Try.func71 rfl rfl (Nat.le_of_ble_eq_true rfl) ?_
  conv => whnf
  refine ⟨tabF71R1, by decide +kernel, ?_⟩
  conv => whnf
  repeat (refine And.intro (by first | decide | omega) ?_; conv => whnf)
  refine ⟨_, rfl, ?_⟩
  conv => whnf
  repeat (refine And.intro (by first | decide | omega) ?_; conv => whnf)
  refine ⟨_, rfl, ?_⟩
  conv => whnf
  repeat (refine And.intro (by first | decide | omega) ?_; conv => whnf)
  refine ⟨_, rfl, ?_⟩
  conv => whnf
  repeat (refine And.intro (by first | decide | omega) ?_; conv => whnf)
  refine ⟨_, rfl, ?_⟩
  conv => whnf
  refine ⟨false, [], ?_⟩
  conv => whnf
  refine ⟨?_, rfl⟩
  have h1 := a.toNat_lt
  have h2 := b.toNat_lt
  have h3 := c.toNat_lt
  have h4 := d.toNat_lt
  have w : ∀ x : UInt8, IntKind.u32.wrap (x.toNat : Int) = (x.toNat : Int) := fun x => wu32 (by omega) (by have := x.toNat_lt; omega)
  rw [w, w, w, w]
  have s1 := sh32 a.toNat 24 (by decide) (by omega)
  have s2 := sh32 b.toNat 16 (by decide) (by omega)
  have s3 := sh32 c.toNat 8 (by decide) (by omega)
  have o1 := or32n a.toNat 24 (b.toNat * 2 ^ 16) (by omega) (by omega)
  have o2 := or32n (a.toNat * 2 ^ 8 + b.toNat) 16 (c.toNat * 2 ^ 8) (by omega) (by omega)
  have o3 := or32n (a.toNat * 2 ^ 16 + b.toNat * 2 ^ 8 + c.toNat) 8 d.toNat (by omega) (by omega)
  rw [show ((24 : Nat) : Int) = 24 from rfl] at s1
  rw [show ((16 : Nat) : Int) = 16 from rfl] at s2
  rw [show ((8 : Nat) : Int) = 8 from rfl] at s3
  rw [s1, s2, s3, o1, show a.toNat * 2 ^ 24 + b.toNat * 2 ^ 16 = (a.toNat * 2 ^ 8 + b.toNat) * 2 ^ 16 by omega, o2, show (a.toNat * 2 ^ 8 + b.toNat) * 2 ^ 16 + c.toNat * 2 ^ 8 = (a.toNat * 2 ^ 16 + b.toNat * 2 ^ 8 + c.toNat) * 2 ^ 8 by omega, o3]
  congr 3
  unfold n4
  omega
theorem c_four2 (n : Nat) (h : n < 4294967296) : FnOK Try.prog D 72 [(AV.sc (.int .u32 ((n : Int))))] [] (fun r st => r = (AV.sl .lf (by8 (b4 n)) .ex) ∧ st = []) := by
  refine fnok_of_W hmix tabOK Try.func72 rfl rfl (Nat.le_of_ble_eq_true rfl) ?_
  conv => whnf
  repeat (refine And.intro (by first | decide | omega) ?_; conv => whnf)
  refine ⟨false, [], ?_⟩
  conv => whnf
  refine ⟨?_, rfl⟩
  congr 1
  have q : ∀ k : Nat, 0 < k → IntKind.u32.wrap (Int.tdiv ((n : Nat) : Int) ((k : Nat) : Int)) = ((n / k : Nat) : Int) := fun k hk => by
    rw [show Int.tdiv ((n : Nat) : Int) ((k : Nat) : Int) = ((n / k : Nat) : Int) from rfl]
    have : n / k ≤ n := Nat.div_le_self n k
    generalize n / k = z at this
    exact wu32 (by omega) (by omega)
  have q1 := q 16777216 (by decide)
  have q2 := q 65536 (by decide)
  have q3 := q 256 (by decide)
  have m1 : ∀ k : Nat, Int.tmod ((k : Nat) : Int) 256 = ((k % 256 : Nat) : Int) := fun k => by
    rfl
  rw [show ((16777216 : Nat) : Int) = 16777216 from rfl] at q1
  rw [show ((65536 : Nat) : Int) = 65536 from rfl] at q2
  rw [show ((256 : Nat) : Int) = 256 from rfl] at q3
  rw [q1, q2, q3, m1, m1, m1, w8m, w8m, w8m, w8m]
  have e : ∀ k : Nat, UInt8.ofNat (k % 256) = UInt8.ofNat k := fun k => by
    apply UInt8.toNat_inj.1
    simp
  rw [e, e, e]
  rfl
end Go.WL.T1
namespace Go.WL.T1
open Go.WL Go.Proofs
set_option maxRecDepth 20000
set_option maxHeartbeats 4000000
/-- Bytes' record. -/
def rec (b : List UInt8) : List UInt8 := b4 b.length ++ (b4 (chk (b4 b.length ++ b)).toNat ++ b)
theorem rec_len (b : List UInt8) : (rec b).length = b.length + 8 := by
  simp [rec, b4_len]
  omega
theorem c_record0 : FnOK Try.prog D 32 [(AV.sl .lf (by8 ([])) .ro)] [] (fun r st => r = .tup [.sl .lf [] .ex, (AV.sc (.int .i64 (1)))] ∧ st = []) := by
  refine fnok_of_W hmix tabOK Try.func32 rfl rfl (Nat.le_of_ble_eq_true rfl) ?_
  conv => whnf
  refine ⟨false, [], ?_⟩
  conv => whnf
  exact ⟨rfl, rfl⟩
theorem c_record (b : List UInt8) (h0 : 0 < b.length) (h1 : b.length ≤ 65536) : FnOK Try.prog D 32 [(AV.sl .lf (by8 (b)) .ro)] [] (fun r st => r = .tup [(AV.sl .lf (by8 (rec b)) .ro), (AV.sc (.int .i64 (0)))] ∧ st = []) := by
  refine fnok_of_W hmix tabOK Try.func32 rfl rfl (Nat.le_of_ble_eq_true rfl) ?_
  conv => whnf
  refine Branch.of (fun hh => ?_) (fun hh => ?_)
  · exfalso; simp only [gt_iff_lt, ge_iff_le, decide_eq_true_eq, decide_eq_false_iff_not, beq_iff_eq, beq_eq_false_iff_ne, bne_iff_ne, bne_eq_false_iff_eq, ne_eq, len8] at hh; first | done | omega
  try rw [hh]
  clear hh
  conv => whnf
  refine Branch.of (fun hh => ?_) (fun hh => ?_)
  · exfalso; simp only [gt_iff_lt, ge_iff_le, decide_eq_true_eq, decide_eq_false_iff_not, beq_iff_eq, beq_eq_false_iff_ne, bne_iff_ne, bne_eq_false_iff_eq, ne_eq, len8] at hh; first | done | omega
  try rw [hh]
  clear hh
  conv => whnf
  rw [len8, wu32 (x := (b.length : Int)) (by omega) (by omega)]
  refine (c_four b.length).mono fun r st e => ?_
  obtain ⟨rfl, rfl⟩ := e
  conv => whnf
  refine (c_crcs [b4 b.length, b] (by simp) (by simp [b4_len]; omega) (.inl rfl) (.cons (.sl (.inl rfl) (Weaks.refl _)) (.cons (.refl _) .nil))).mono fun r st e => ?_
  obtain ⟨rfl, rfl⟩ := e
  rw [show [b4 b.length, b].flatten = b4 b.length ++ b by simp]
  conv => whnf
  refine (c_four (chk (b4 b.length ++ b)).toNat).mono fun r st e => ?_
  obtain ⟨rfl, rfl⟩ := e
  conv => whnf
  refine ((c_concat [b4 b.length, b4 (chk (b4 b.length ++ b)).toNat, b] (by simp) (by simp [tot, b4_len]; omega)).weak (.cons (.sl (.inl rfl) (.cons (.sl (.inl rfl) (Weaks.refl _)) (.cons (.sl (.inl rfl) (Weaks.refl _)) (.cons (.refl _) .nil)))) .nil)).mono fun r st e => ?_
  have hr : [b4 b.length, b4 (chk (b4 b.length ++ b)).toNat, b].flatten = rec b := by simp [rec]
  obtain ⟨rfl, rfl⟩ := e
  rw [hr]
  conv => whnf
  refine ⟨false, [], ?_⟩
  conv => whnf
  exact ⟨rfl, rfl⟩
theorem c_record2 (b : List UInt8) (h1 : b.length ≤ 65536) : FnOK Try.prog D 35 [(AV.sl .lf (by8 (b)) .ro)] [] (fun r st => r = (AV.sl .lf (by8 (rec b)) (.own 0)) ∧ st = []) := by
  refine fnok_of_W hmix tabOK Try.func35 rfl rfl (Nat.le_of_ble_eq_true rfl) ?_
  conv => whnf
  rw [len8, wu32 (x := (b.length : Int)) (by omega) (by omega)]
  refine (c_four2 b.length (by omega)).mono fun r st e => ?_
  obtain ⟨rfl, rfl⟩ := e
  conv => whnf
  refine ⟨by simp [by8, b4_len], ?_⟩
  conv => whnf
  refine ⟨by simp [by8, b4_len], ?_⟩
  conv => whnf
  refine ⟨by simp [b4_len, by8]; omega, ?_⟩
  conv => whnf
  rw [show List.replicate 0 (AV.sc (.int .u8 0)) ++ by8 (b4 b.length) ++ by8 b = by8 (b4 b.length ++ b) by simp [by8]]
  refine (c_ref (b4 b.length ++ b) (by simp [b4_len]; omega)).mono fun r st e => ?_
  obtain ⟨rfl, rfl⟩ := e
  conv => whnf
  refine (c_four2 (chk (b4 b.length ++ b)).toNat (by have := (chk (b4 b.length ++ b)).isLt; omega)).mono fun r st e => ?_
  obtain ⟨rfl, rfl⟩ := e
  conv => whnf
  refine ⟨by simp [b4_len, by8], ?_⟩
  conv => whnf
  refine ⟨by simp [b4_len, by8]; omega, ?_⟩
  conv => whnf
  refine ⟨false, [], ?_⟩
  conv => whnf
  refine ⟨?_, rfl⟩
  simp [rec, by8]
/-- The record that bytes begin with: its bytes, how many it has with its head, and what is told. -/
def nxt : List UInt8 → List UInt8 × Nat × Nat
  | a :: b :: c :: d :: e :: f :: g :: h :: l =>
    if n4 a b c d = 0 ∨ 65536 < n4 a b c d then ([], 0, 2) else
    if l.length < n4 a b c d then ([], 0, 3) else
    if (chk ([a, b, c, d] ++ l.take (n4 a b c d))).toNat = n4 e f g h then (l.take (n4 a b c d), 8 + n4 a b c d, 0) else ([], 0, 2)
  | _ => ([], 0, 3)
theorem nxt_short {B : List UInt8} (h : B.length < 8) : nxt B = ([], 0, 3) := by
  match B, h with
  | [], _ => rfl
  | [_], _ => rfl
  | [_, _], _ => rfl
  | [_, _, _], _ => rfl
  | [_, _, _, _], _ => rfl
  | [_, _, _, _, _], _ => rfl
  | [_, _, _, _, _, _], _ => rfl
  | [_, _, _, _, _, _, _], _ => rfl
theorem eight {B : List UInt8} (hB : ¬ B.length < 8) : ∃ a b c d e f g h l, B = a :: b :: c :: d :: e :: f :: g :: h :: l := by
  rcases B with _ | ⟨a, _ | ⟨b, _ | ⟨c, _ | ⟨d, _ | ⟨e, _ | ⟨f, _ | ⟨g, _ | ⟨h, l⟩⟩⟩⟩⟩⟩⟩⟩
  iterate 8 exact absurd (by simp) hB
  exact ⟨a, b, c, d, e, f, g, h, l, rfl⟩
theorem c_next_aux (B : List UInt8) (hB : B.length < 100000000) (hl8 : 8 ≤ B.length) (n Y : Nat) (hn : n < 4294967296) (G : List UInt8 × Nat × Nat)
    (hnx : G = if n = 0 ∨ 65536 < n then ([], 0, 2) else if B.length - 8 < n then ([], 0, 3) else if (chk (B.take 4 ++ (B.drop 8).take n)).toNat = Y then ((B.drop 8).take n, 8 + n, 0) else ([], 0, 2))
    (k1 : FnOK Try.prog D 71 [(AV.sl .lf (by8 (B)) .ro)] [] (fun r st => r = (AV.sc (.int .u32 ((n : Int)))) ∧ st = [])) (k2 : FnOK Try.prog D 71 [(AV.sl .lf (by8 (B.drop 4)) .ro)] [] (fun r st => r = (AV.sc (.int .u32 ((Y : Int)))) ∧ st = [])) :
    FnOK Try.prog D 33 [(AV.sl .lf (by8 (B)) .ro)] [] (fun r st => r = .tup [(AV.sl .lf (by8 (G.1)) .ro), (AV.sc (.int .i64 ((G.2.1 : Int)))), (AV.sc (.int .i64 ((G.2.2 : Int))))] ∧ st = []) := by
  refine fnok_of_W hmix tabOK Try.func33 rfl rfl (Nat.le_of_ble_eq_true rfl) ?_
  conv => whnf
  refine Branch.of (fun hh => ?_) (fun hh => ?_)
  · exfalso; simp only [gt_iff_lt, ge_iff_le, decide_eq_true_eq, decide_eq_false_iff_not, beq_iff_eq, beq_eq_false_iff_ne, bne_iff_ne, bne_eq_false_iff_eq, ne_eq, len8] at hh; first | done | omega
  try rw [hh]
  clear hh
  conv => whnf
  refine k1.mono fun r st e => ?_
  obtain ⟨rfl, rfl⟩ := e
  conv => whnf
  refine Branch.of (fun h1 => ?_) (fun h1 => ?_) <;> rw [h1] <;> conv => whnf
  · simp only [beq_iff_eq] at h1
    rw [if_pos (.inl (by omega))] at hnx
    subst hnx
    refine ⟨false, [999], ?_⟩
    conv => whnf
    exact ⟨rfl, rfl⟩
  simp only [beq_eq_false_iff_ne] at h1
  refine Branch.of (fun h2 => ?_) (fun h2 => ?_) <;> rw [h2] <;> conv => whnf
  · simp only [gt_iff_lt, decide_eq_true_eq] at h2
    rw [if_pos (.inr (by omega))] at hnx
    subst hnx
    refine ⟨false, [999], ?_⟩
    conv => whnf
    exact ⟨rfl, rfl⟩
  simp only [gt_iff_lt, decide_eq_false_iff_not] at h2
  rw [if_neg (by omega)] at hnx
  rw [len8, w64 (x := (n : Int)) (by omega) (by omega), w64 (x := (B.length : Int) - 8) (by omega) (by omega)]
  refine Branch.of (fun h3 => ?_) (fun h3 => ?_) <;> rw [h3] <;> conv => whnf
  · simp only [gt_iff_lt, decide_eq_true_eq] at h3
    rw [if_pos (by omega)] at hnx
    subst hnx
    refine ⟨false, [999], ?_⟩
    conv => whnf
    exact ⟨rfl, rfl⟩
  simp only [gt_iff_lt, decide_eq_false_iff_not] at h3
  rw [if_neg (by omega)] at hnx
  rw [w64 (x := (n : Int)) (by omega) (by omega), w64 (x := (8 : Int) + (n : Int)) (by omega) (by omega)]
  repeat (refine And.intro (by first | omega | (simp only [len8]; omega)) ?_; conv => whnf)
  rw [show (((by8 B).drop (8 : Int).toNat).take ((8 + (n : Int)).toNat - (8 : Int).toNat)) = by8 ((B.drop 8).take n) by
    rw [show ((8 + (n : Int)).toNat - (8 : Int).toNat) = n by omega]
    simp [by8]]
  refine ⟨tabF33R10, by decide +kernel, ?_⟩
  conv => whnf
  repeat (refine And.intro (by first | omega | (simp only [len8]; omega)) ?_; conv => whnf)
  rw [show List.take (Int.toNat 4 - 0) (List.drop 0 (by8 B)) = by8 (B.take 4) by simp [by8]]
  refine ⟨_, _, c_crcs [B.take 4, (B.drop 8).take n] (by simp) (by simp; omega) (.inl rfl) (.cons (.refl _) (.cons (.sl (.inl rfl) (Weaks.refl _)) .nil)), ?_⟩
  rw [show [B.take 4, (B.drop 8).take n].flatten = B.take 4 ++ (B.drop 8).take n by simp]
  generalize chk (B.take 4 ++ (B.drop 8).take n) = X at hnx
  conv => whnf
  rw [len8]
  repeat (refine And.intro (by first | omega | (simp only [len8]; omega)) ?_; conv => whnf)
  rw [show List.take (B.length - Int.toNat 4) (List.drop (Int.toNat 4) (by8 B)) = by8 (B.drop 4) by
    rw [by8_drop, by8_take, List.take_of_length_le]
    · rfl
    · simp]
  refine ⟨_, _, k2, ?_⟩
  conv => whnf
  refine Branch.of (fun h4 => ?_) (fun h4 => ?_) <;> rw [h4] <;> conv => whnf
  · simp only [bne_iff_ne, ne_eq] at h4
    rw [if_neg (by intro h; exact h4 (by rw [← h]))] at hnx
    subst hnx
    refine ⟨false, [999], ?_⟩
    conv => whnf
    exact ⟨rfl, rfl⟩
  simp only [bne_eq_false_iff_eq] at h4
  rw [if_pos (by have : ((X.toNat : Nat) : Int) = (Y : Int) := h4; omega)] at hnx
  subst hnx
  refine (c_clone ((B.drop 8).take n) (by simp; omega) (.inl rfl)).mono fun r st e => ?_
  obtain ⟨rfl, rfl⟩ := e
  conv => whnf
  rw [w64 (x := (n : Int)) (by omega) (by omega), w64 (x := (8 : Int) + (n : Int)) (by omega) (by omega)]
  refine ⟨false, [999], ?_⟩
  conv => whnf
  refine ⟨?_, rfl⟩
  congr 4
theorem c_next (B : List UInt8) (hB : B.length < 100000000) : FnOK Try.prog D 33 [(AV.sl .lf (by8 (B)) .ro)] [] (fun r st => r = .tup [(AV.sl .lf (by8 ((nxt B).1)) .ro), (AV.sc (.int .i64 (((nxt B).2.1 : Int)))), (AV.sc (.int .i64 (((nxt B).2.2 : Int))))] ∧ st = []) := by
  by_cases h8 : B.length < 8
  · rw [nxt_short h8]
    refine fnok_of_W hmix tabOK Try.func33 rfl rfl (Nat.le_of_ble_eq_true rfl) ?_
    conv => whnf
    refine Branch.of (fun hh => ?_) (fun hh => ?_)
    rotate_left
    · exfalso; simp only [gt_iff_lt, ge_iff_le, decide_eq_true_eq, decide_eq_false_iff_not, beq_iff_eq, beq_eq_false_iff_ne, bne_iff_ne, bne_eq_false_iff_eq, ne_eq, len8] at hh; first | done | omega
    try rw [hh]
    clear hh
    conv => whnf
    refine ⟨false, [999], ?_⟩
    conv => whnf
    exact ⟨rfl, rfl⟩
  have hl8 : 8 ≤ B.length := by omega
  obtain ⟨a, b, c, d, e, f, g, h, l, hBe⟩ := eight h8
  have hn := n4_lt a b c d
  have hnx : nxt B = if n4 a b c d = 0 ∨ 65536 < n4 a b c d then ([], 0, 2) else
    if l.length < n4 a b c d then ([], 0, 3) else
    if (chk ([a, b, c, d] ++ l.take (n4 a b c d))).toNat = n4 e f g h then (l.take (n4 a b c d), 8 + n4 a b c d, 0) else ([], 0, 2) := by rw [hBe]; rfl
  have k1 := c_number a b c d (e :: f :: g :: h :: l)
  rw [← hBe] at k1
  have k2 := c_number e f g h l
  rw [show e :: f :: g :: h :: l = B.drop 4 by rw [hBe]; rfl] at k2
  have hl : l = B.drop 8 := by rw [hBe]; rfl
  have h4 : [a, b, c, d] = B.take 4 := by rw [hBe]; rfl
  rw [h4, hl, List.length_drop] at hnx
  exact c_next_aux B hB hl8 _ _ hn _ hnx k1 k2
end Go.WL.T1
namespace Go.WL.T1
open Go.WL Go.Proofs
set_option maxRecDepth 20000
set_option maxHeartbeats 4000000
theorem b4_inj {m n : Nat} (hm : m < 4294967296) (hn : n < 4294967296) (h : b4 m = b4 n) : m = n := by
  unfold b4 at h
  simp only [List.cons.injEq, and_true] at h
  have := n4_b4 m hm
  rw [h.1, h.2.1, h.2.2.1, h.2.2.2, n4_b4 n hn] at this
  exact this.symm
theorem c_refnext_short (B : List UInt8) (h : B.length < 8) : FnOK Try.prog D 34 [(AV.sl .lf (by8 (B)) .ro)] [] (fun r st => r = .tup [(AV.sl .lf (by8 ([])) .ro), (AV.sc (.int .i64 (2)))] ∧ st = []) := by
  refine fnok_of_W hmix tabOK Try.func34 rfl rfl (Nat.le_of_ble_eq_true rfl) ?_
  conv => whnf
  refine Branch.of (fun hh => ?_) (fun hh => ?_)
  rotate_left
  · exfalso; simp only [gt_iff_lt, ge_iff_le, decide_eq_true_eq, decide_eq_false_iff_not, beq_iff_eq, beq_eq_false_iff_ne, bne_iff_ne, bne_eq_false_iff_eq, ne_eq, len8] at hh; first | done | omega | (simp at hh; done)
  try rw [hh]
  clear hh
  conv => whnf
  refine ⟨false, [999], ?_⟩
  conv => whnf
  exact ⟨rfl, rfl⟩
theorem c_refnext_aux (B : List UInt8) (hB : B.length < 100000000) (hl8 : 8 ≤ B.length) (a b c d : UInt8) (n : Nat) (hn : n < 4294967296) (hN : a.toNat * 16777216 + b.toNat * 65536 + c.toNat * 256 + d.toNat = n)
    (ha : (by8 B)[(0 : Int).toNat]? = some (AV.sc (.int .u8 ((a.toNat : Int))))) (hb : (by8 B)[(1 : Int).toNat]? = some (AV.sc (.int .u8 ((b.toNat : Int))))) (hc : (by8 B)[(2 : Int).toNat]? = some (AV.sc (.int .u8 ((c.toNat : Int))))) (hd : (by8 B)[(3 : Int).toNat]? = some (AV.sc (.int .u8 ((d.toNat : Int)))))
    (G : List UInt8 × Nat) (hnx : G = if n = 0 ∨ 65536 < n then ([], 0) else if B.length - 8 < n then ([], 2) else if rec ((B.drop 8).take n) = B.take (8 + n) then ((B.drop 8).take n, 1) else ([], 0)) :
    FnOK Try.prog D 34 [(AV.sl .lf (by8 (B)) .ro)] [] (fun r st => r = .tup [(AV.sl .lf (by8 (G.1)) .ro), (AV.sc (.int .i64 ((G.2 : Int))))] ∧ st = []) := by
  have h1 := a.toNat_lt
  have h2 := b.toNat_lt
  have h3 := c.toNat_lt
  have h4 := d.toNat_lt
  refine fnok_of_W hmix tabOK Try.func34 rfl rfl (Nat.le_of_ble_eq_true rfl) ?_
  conv => whnf
  refine Branch.of (fun hh => ?_) (fun hh => ?_)
  · exfalso; simp only [gt_iff_lt, ge_iff_le, decide_eq_true_eq, decide_eq_false_iff_not, beq_iff_eq, beq_eq_false_iff_ne, bne_iff_ne, bne_eq_false_iff_eq, ne_eq, len8] at hh; first | done | omega | (simp at hh; done)
  try rw [hh]
  clear hh
  conv => whnf
  refine ⟨tabF34R3, by decide +kernel, ?_⟩
  conv => whnf
  repeat (refine And.intro (by first | omega) ?_; conv => whnf)
  refine ⟨_, ha, ?_⟩
  conv => whnf
  repeat (refine And.intro (by first | omega) ?_; conv => whnf)
  refine ⟨_, hb, ?_⟩
  conv => whnf
  repeat (refine And.intro (by first | omega) ?_; conv => whnf)
  refine ⟨_, hc, ?_⟩
  conv => whnf
  repeat (refine And.intro (by first | omega) ?_; conv => whnf)
  refine ⟨_, hd, ?_⟩
  conv => whnf
  rw [w64 (x := (a.toNat : Int)) (by omega) (by omega), w64 (x := (b.toNat : Int)) (by omega) (by omega), w64 (x := (c.toNat : Int)) (by omega) (by omega), w64 (x := (d.toNat : Int)) (by omega) (by omega),
    w64 (x := (a.toNat : Int) * 16777216) (by omega) (by omega), w64 (x := (b.toNat : Int) * 65536) (by omega) (by omega), w64 (x := (c.toNat : Int) * 256) (by omega) (by omega),
    w64 (x := (a.toNat : Int) * 16777216 + (b.toNat : Int) * 65536) (by omega) (by omega), w64 (x := (a.toNat : Int) * 16777216 + (b.toNat : Int) * 65536 + (c.toNat : Int) * 256) (by omega) (by omega), w64 (x := (a.toNat : Int) * 16777216 + (b.toNat : Int) * 65536 + (c.toNat : Int) * 256 + (d.toNat : Int)) (by omega) (by omega),
    show (a.toNat : Int) * 16777216 + (b.toNat : Int) * 65536 + (c.toNat : Int) * 256 + (d.toNat : Int) = (n : Int) by omega]
  refine Branch.of (fun k1 => ?_) (fun k1 => ?_) <;> rw [k1] <;> conv => whnf
  · simp only [decide_eq_true_eq] at k1
    rw [if_pos (.inl (by omega))] at hnx
    subst hnx
    refine ⟨false, [999], ?_⟩
    conv => whnf
    exact ⟨rfl, rfl⟩
  simp only [decide_eq_false_iff_not] at k1
  refine Branch.of (fun k2 => ?_) (fun k2 => ?_) <;> rw [k2] <;> conv => whnf
  · simp only [gt_iff_lt, decide_eq_true_eq] at k2
    rw [if_pos (.inr (by omega))] at hnx
    subst hnx
    refine ⟨false, [999], ?_⟩
    conv => whnf
    exact ⟨rfl, rfl⟩
  simp only [gt_iff_lt, decide_eq_false_iff_not] at k2
  rw [if_neg (by omega)] at hnx
  rw [len8, w64 (x := (8 : Int) + (n : Int)) (by omega) (by omega)]
  refine Branch.of (fun k3 => ?_) (fun k3 => ?_) <;> rw [k3] <;> conv => whnf
  · simp only [decide_eq_true_eq] at k3
    rw [if_pos (by omega)] at hnx
    subst hnx
    refine ⟨false, [999], ?_⟩
    conv => whnf
    exact ⟨rfl, rfl⟩
  simp only [decide_eq_false_iff_not] at k3
  rw [if_neg (by omega)] at hnx
  rw [w64 (x := (8 : Int) + (n : Int)) (by omega) (by omega)]
  repeat (refine And.intro (by first | omega | (simp only [len8]; omega)) ?_; conv => whnf)
  rw [show (((by8 B).drop (8 : Int).toNat).take ((8 + (n : Int)).toNat - (8 : Int).toNat)) = by8 ((B.drop 8).take n) by
    rw [show ((8 + (n : Int)).toNat - (8 : Int).toNat) = n by omega]
    simp [by8]]
  refine ⟨by simp [by8]; omega, ?_⟩
  conv => whnf
  rw [show List.replicate 0 (AV.sc (.int .u8 0)) ++ by8 ((B.drop 8).take n) = by8 ((B.drop 8).take n) from rfl]
  refine ⟨tabF34R9, by decide +kernel, ?_⟩
  conv => whnf
  refine ⟨_, _, c_record2 ((B.drop 8).take n) (by simp; omega), ?_⟩
  conv => whnf
  rw [w64 (x := (8 : Int) + (n : Int)) (by omega) (by omega)]
  repeat (refine And.intro (by first | omega | (simp only [len8]; omega)) ?_; conv => whnf)
  rw [show List.take ((8 + (n : Int)).toNat - 0) (List.drop 0 (by8 B)) = by8 (B.take (8 + n)) by
    rw [show ((8 + (n : Int)).toNat - 0) = 8 + n by omega]
    simp [by8]]
  generalize hR : rec ((B.drop 8).take n) = R at hnx
  refine ⟨_, _, c_same R (B.take (8 + n)) (by rw [← hR, rec_len]; simp; omega) (.inr rfl) (.inr rfl), ?_⟩
  conv => whnf
  by_cases hs : R = B.take (8 + n)
  · rw [if_pos hs] at hnx
    rw [show (R == B.take (8 + n)) = true by rw [hs]; exact beq_self_eq_true _]
    subst hnx
    conv => whnf
    refine ⟨false, [999], ?_⟩
    conv => whnf
    exact ⟨rfl, rfl⟩
  · rw [if_neg hs] at hnx
    rw [show (R == B.take (8 + n)) = false from beq_eq_false_iff_ne.2 hs]
    subst hnx
    conv => whnf
    refine ⟨false, [999], ?_⟩
    conv => whnf
    exact ⟨rfl, rfl⟩
theorem nxt_eq (a b c d e f g h : UInt8) (l : List UInt8) : nxt (a :: b :: c :: d :: e :: f :: g :: h :: l) = if n4 a b c d = 0 ∨ 65536 < n4 a b c d then ([], 0, 2) else
      if l.length < n4 a b c d then ([], 0, 3) else
      if (chk ([a, b, c, d] ++ l.take (n4 a b c d))).toNat = n4 e f g h then (l.take (n4 a b c d), 8 + n4 a b c d, 0) else ([], 0, 2) := by
  rw [nxt]
/-- What the reference tells of the record that bytes begin with. -/
def how (e : Nat) : Nat := if e = 0 then 1 else if e = 3 then 2 else 0
theorem nxt_ref (B : List UInt8) (a b c d e f g h : UInt8) (l : List UInt8) (hBe : B = a :: b :: c :: d :: e :: f :: g :: h :: l) (hl : l = B.drop 8) (n : Nat) (hnn : n4 a b c d = n) (Y : Nat) (hY : n4 e f g h = Y) :
    ((nxt B).1, how (nxt B).2.2) = if n = 0 ∨ 65536 < n then ([], 0) else if B.length - 8 < n then ([], 2) else if rec ((B.drop 8).take (n)) = B.take (8 + n) then ((B.drop 8).take (n), 1) else ([], 0) := by
  have hn : n < 4294967296 := hnn ▸ n4_lt a b c d
  have hYl : Y < 4294967296 := hY ▸ n4_lt e f g h
  have hnx : nxt B = if n = 0 ∨ 65536 < n then ([], 0, 2) else
    if l.length < n then ([], 0, 3) else
    if (chk ([a, b, c, d] ++ l.take (n))).toNat = Y then (l.take (n), 8 + n, 0) else ([], 0, 2) := by rw [hBe, nxt_eq, hnn, hY]
  rw [hnx, ← hl, show B.length - 8 = l.length by rw [hl, List.length_drop]]
  split
  · rfl
  split
  · rfl
  rename_i q1 q2
  have e1 : rec (l.take (n)) = B.take (8 + n) ↔ (chk ([a, b, c, d] ++ l.take (n))).toNat = Y := by
    have e2 : B.take (8 + n) = [a, b, c, d] ++ ([e, f, g, h] ++ l.take (n)) := by
      rw [hBe, show 8 + n = n + 1 + 1 + 1 + 1 + 1 + 1 + 1 + 1 by omega]
      simp only [List.take_succ_cons, List.cons_append, List.nil_append]
    have e3 : (l.take (n)).length = n := by rw [List.length_take]; omega
    unfold rec
    rw [e2, e3, show b4 n = [a, b, c, d] by rw [← hnn, b4_n4]]
    rw [List.append_cancel_left_eq, List.append_cancel_right_eq]
    constructor
    · intro h1
      refine b4_inj (by have := (chk ([a, b, c, d] ++ l.take (n))).isLt; omega) hYl ?_
      rw [h1, ← hY, b4_n4]
    · intro h1
      rw [h1, ← hY, b4_n4]
  by_cases q3 : rec (l.take (n)) = B.take (8 + n)
  · rw [if_pos q3, if_pos (e1.1 q3)]
    rfl
  · rw [if_neg q3, if_neg (fun h => q3 (e1.2 h))]
    rfl
theorem c_refnext (B : List UInt8) (hB : B.length < 100000000) : FnOK Try.prog D 34 [(AV.sl .lf (by8 (B)) .ro)] [] (fun r st => r = .tup [(AV.sl .lf (by8 ((nxt B).1)) .ro), (AV.sc (.int .i64 ((how (nxt B).2.2 : Int))))] ∧ st = []) := by
  by_cases h8 : B.length < 8
  · rw [nxt_short h8]
    exact c_refnext_short B h8
  obtain ⟨a, b, c, d, e, f, g, h, l, hBe⟩ := eight h8
  have hl : l = B.drop 8 := by rw [hBe]; rfl
  exact c_refnext_aux B hB (by omega) a b c d (n4 a b c d) (n4_lt a b c d) (by rw [n4]) (by rw [hBe]; rfl) (by rw [hBe]; rfl) (by rw [hBe]; rfl) (by rw [hBe]; rfl) ((nxt B).1, how (nxt B).2.2) (nxt_ref B a b c d e f g h l hBe hl _ rfl _ rfl)
theorem nxt_rec (b more : List UInt8) (h0 : 0 < b.length) (h1 : b.length ≤ 65536) : nxt (rec b ++ more) = (b, 8 + b.length, 0) := by
  have e1 : rec b ++ more = UInt8.ofNat (b.length / 16777216) :: UInt8.ofNat (b.length / 65536) :: UInt8.ofNat (b.length / 256) :: UInt8.ofNat b.length ::
    UInt8.ofNat ((chk (b4 b.length ++ b)).toNat / 16777216) :: UInt8.ofNat ((chk (b4 b.length ++ b)).toNat / 65536) :: UInt8.ofNat ((chk (b4 b.length ++ b)).toNat / 256) :: UInt8.ofNat (chk (b4 b.length ++ b)).toNat :: (b ++ more) := by
    simp [rec, b4]
  rw [e1, nxt_eq]
  rw [n4_b4 b.length (by omega), n4_b4 (chk (b4 b.length ++ b)).toNat (by have := (chk (b4 b.length ++ b)).isLt; omega)]
  rw [if_neg (by omega), if_neg (by simp)]
  have e2 : (b ++ more).take b.length = b := by simp
  rw [e2, if_pos]
  rfl
theorem how_of (e : Nat) (h : e = 0 ∨ e = 2 ∨ e = 3) : (!((((e : Nat) : Int) == 0) == (((how e : Nat) : Int) == 1))) = false ∧ (!((((e : Nat) : Int) == 3) == (((how e : Nat) : Int) == 2))) = false ∧ (!((((e : Nat) : Int) == 2) == (((how e : Nat) : Int) == 0))) = false := by
  rcases h with rfl | rfl | rfl <;> exact ⟨rfl, rfl, rfl⟩
theorem nxt_cases (B : List UInt8) : ((nxt B).2.2 = 0 ∧ (nxt B).2.1 = 8 + (nxt B).1.length) ∨ (((nxt B).2.2 = 2 ∨ (nxt B).2.2 = 3) ∧ (nxt B).2.1 = 0) := by
  by_cases h8 : B.length < 8
  · rw [nxt_short h8]
    exact .inr ⟨.inr rfl, rfl⟩
  obtain ⟨a, b, c, d, e, f, g, h, l, rfl⟩ := eight h8
  rw [nxt_eq]
  split
  · exact .inr ⟨.inl rfl, rfl⟩
  split
  · exact .inr ⟨.inr rfl, rfl⟩
  split
  · refine .inl ⟨rfl, ?_⟩
    simp only [List.length_take]
    omega
  · exact .inr ⟨.inl rfl, rfl⟩
theorem nxt_len (B : List UInt8) : (nxt B).1.length ≤ B.length := by
  by_cases h8 : B.length < 8
  · rw [nxt_short h8]
    exact Nat.zero_le _
  obtain ⟨a, b, c, d, e, f, g, h, l, rfl⟩ := eight h8
  rw [nxt_eq]
  split
  · exact Nat.zero_le _
  split
  · exact Nat.zero_le _
  split
  · simp only [List.length_take, List.length_cons]
    omega
  · exact Nat.zero_le _
theorem c_recl0 (more x : List UInt8) (hm : more.length ≤ 1000) (hx : x.length ≤ 1000) (e n w : Nat) (he : (e = 0 ∧ w = 1 ∧ n = 8 + x.length) ∨ (w ≠ 1 ∧ n = 0)) (hh : (!((((e : Nat) : Int) == 0) == (((w : Nat) : Int) == 1))) = false ∧ (!((((e : Nat) : Int) == 3) == (((w : Nat) : Int) == 2))) = false ∧ (!((((e : Nat) : Int) == 2) == (((w : Nat) : Int) == 0))) = false)
    (k1 : FnOK Try.prog D 33 [(AV.sl .lf (by8 (more)) .ro)] [] (fun r st => r = .tup [(AV.sl .lf (by8 (x)) .ro), (AV.sc (.int .i64 ((n : Int)))), (AV.sc (.int .i64 ((e : Int))))] ∧ st = []))
    (k2 : FnOK Try.prog D 34 [(AV.sl .lf (by8 (more)) .ro)] [] (fun r st => r = .tup [(AV.sl .lf (by8 (x)) .ro), (AV.sc (.int .i64 ((w : Int))))] ∧ st = [])) :
    FnOK Try.prog D 7 [(AV.sl .lf (by8 ([])) .ro), (AV.sl .lf (by8 (more)) .ro)] [] (fun r _ => r = (AV.sc (.bool (true)))) := by
  have hsame := c_same x x (by omega) (m1 := .ro) (m2 := .ro) (.inr rfl) (.inr rfl)
  rw [beq_self_eq_true] at hsame
  refine fnok_of_W hmix tabOK Try.func7 rfl rfl (Nat.le_of_ble_eq_true rfl) ?_
  conv => whnf
  refine Branch.of (fun hh => ?_) (fun hh => ?_)
  · exfalso; simp only [gt_iff_lt, ge_iff_le, decide_eq_true_eq, decide_eq_false_iff_not, beq_iff_eq, beq_eq_false_iff_ne, bne_iff_ne, bne_eq_false_iff_eq, ne_eq, len8] at hh; first | done | omega | (simp at hh; done)
  try rw [hh]
  clear hh
  conv => whnf
  refine c_record0.mono fun r st e => ?_
  obtain ⟨rfl, rfl⟩ := e
  conv => whnf
  refine k1.mono fun r st e => ?_
  obtain ⟨rfl, rfl⟩ := e
  conv => whnf
  refine k2.mono fun r st e => ?_
  obtain ⟨rfl, rfl⟩ := e
  conv => whnf
  refine hsame.mono fun r st e => ?_
  obtain ⟨rfl, rfl⟩ := e
  conv => whnf
  rw [hh.1]
  conv => whnf
  rw [hh.2.1]
  conv => whnf
  rw [hh.2.2]
  conv => whnf
  rcases he with ⟨rfl, hw1, hn⟩ | ⟨he, rfl⟩
  · refine Branch.of (fun hh => ?_) (fun hh => ?_)
    rotate_left
    · exfalso; simp only [gt_iff_lt, ge_iff_le, decide_eq_true_eq, decide_eq_false_iff_not, beq_iff_eq, beq_eq_false_iff_ne, bne_iff_ne, bne_eq_false_iff_eq, ne_eq] at hh; first | done | omega | (simp at hh; done)
    try rw [hh]
    clear hh
    conv => whnf
    rw [len8, w64 (x := (8 : Int) + (x.length : Int)) (by omega) (by omega)]
    refine Branch.of (fun hh => ?_) (fun hh => ?_)
    · exfalso; simp only [gt_iff_lt, ge_iff_le, decide_eq_true_eq, decide_eq_false_iff_not, beq_iff_eq, beq_eq_false_iff_ne, bne_iff_ne, bne_eq_false_iff_eq, ne_eq] at hh; first | done | omega | (simp at hh; done)
    try rw [hh]
    clear hh
    conv => whnf
    rw [show (((n : Nat) : Int) == 0) = false by rw [beq_eq_false_iff_ne]; omega, show (((w : Nat) : Int) != 1) = false by rw [bne_eq_false_iff_eq]; omega]
    conv => whnf
    refine c_crcawake.mono fun r st e => ?_
    obtain ⟨rfl, rfl⟩ := e
    conv => whnf
    refine ⟨false, [], ?_⟩
    conv => whnf
  · conv => whnf
    rw [show (((w : Nat) : Int) != 1) = true by rw [bne_iff_ne]; omega]
    conv => whnf
    refine c_crcawake.mono fun r st e => ?_
    obtain ⟨rfl, rfl⟩ := e
    conv => whnf
    refine ⟨false, [], ?_⟩
    conv => whnf
theorem c_recl1 (b more x : List UInt8) (hb0 : 0 < b.length) (hb : b.length ≤ 1000) (hm : more.length ≤ 1000) (hx : x.length ≤ 1000) (e n w : Nat) (he : (e = 0 ∧ w = 1 ∧ n = 8 + x.length) ∨ (w ≠ 1 ∧ n = 0)) (hh : (!((((e : Nat) : Int) == 0) == (((w : Nat) : Int) == 1))) = false ∧ (!((((e : Nat) : Int) == 3) == (((w : Nat) : Int) == 2))) = false ∧ (!((((e : Nat) : Int) == 2) == (((w : Nat) : Int) == 0))) = false)
    (k1 : FnOK Try.prog D 33 [(AV.sl .lf (by8 (more)) .ro)] [] (fun r st => r = .tup [(AV.sl .lf (by8 (x)) .ro), (AV.sc (.int .i64 ((n : Int)))), (AV.sc (.int .i64 ((e : Int))))] ∧ st = []))
    (k2 : FnOK Try.prog D 34 [(AV.sl .lf (by8 (more)) .ro)] [] (fun r st => r = .tup [(AV.sl .lf (by8 (x)) .ro), (AV.sc (.int .i64 ((w : Int))))] ∧ st = [])) (q : List UInt8) (hq : q.length = b.length + 8) (k0 : FnOK Try.prog D 32 [(AV.sl .lf (by8 (b)) .ro)] [] (fun r st => r = .tup [(AV.sl .lf (by8 (q)) .ro), (AV.sc (.int .i64 (0)))] ∧ st = [])) (k3 : FnOK Try.prog D 35 [(AV.sl .lf (by8 (b)) .ro)] [] (fun r st => r = (AV.sl .lf (by8 (q)) (.own 0)) ∧ st = [])) (k4 : FnOK Try.prog D 33 [(AV.sl .lf (by8 (q ++ more)) .ro)] [] (fun r st => r = .tup [(AV.sl .lf (by8 (b)) .ro), (AV.sc (.int .i64 ((q.length : Int)))), (AV.sc (.int .i64 (0)))] ∧ st = [])) :
    FnOK Try.prog D 7 [(AV.sl .lf (by8 (b)) .ro), (AV.sl .lf (by8 (more)) .ro)] [] (fun r _ => r = (AV.sc (.bool (true)))) := by
  have hsame := c_same x x (by omega) (m1 := .ro) (m2 := .ro) (.inr rfl) (.inr rfl)
  rw [beq_self_eq_true] at hsame
  refine fnok_of_W hmix tabOK Try.func7 rfl rfl (Nat.le_of_ble_eq_true rfl) ?_
  conv => whnf
  refine Branch.of (fun hh => ?_) (fun hh => ?_)
  · exfalso; simp only [gt_iff_lt, ge_iff_le, decide_eq_true_eq, decide_eq_false_iff_not, beq_iff_eq, beq_eq_false_iff_ne, bne_iff_ne, bne_eq_false_iff_eq, ne_eq, len8] at hh; first | done | omega | (simp at hh; done)
  try rw [hh]
  clear hh
  conv => whnf
  refine Branch.of (fun hh => ?_) (fun hh => ?_)
  · exfalso; simp only [gt_iff_lt, ge_iff_le, decide_eq_true_eq, decide_eq_false_iff_not, beq_iff_eq, beq_eq_false_iff_ne, bne_iff_ne, bne_eq_false_iff_eq, ne_eq, len8] at hh; first | done | omega | (simp at hh; done)
  try rw [hh]
  clear hh
  conv => whnf
  refine k0.mono fun r st e => ?_
  obtain ⟨rfl, rfl⟩ := e
  conv => whnf
  refine k1.mono fun r st e => ?_
  obtain ⟨rfl, rfl⟩ := e
  conv => whnf
  refine k2.mono fun r st e => ?_
  obtain ⟨rfl, rfl⟩ := e
  conv => whnf
  refine hsame.mono fun r st e => ?_
  obtain ⟨rfl, rfl⟩ := e
  conv => whnf
  rw [hh.1]
  conv => whnf
  rw [hh.2.1]
  conv => whnf
  rw [hh.2.2]
  conv => whnf
  rcases he with ⟨rfl, hw1, hn⟩ | ⟨he, rfl⟩
  · refine Branch.of (fun hh => ?_) (fun hh => ?_)
    rotate_left
    · exfalso; simp only [gt_iff_lt, ge_iff_le, decide_eq_true_eq, decide_eq_false_iff_not, beq_iff_eq, beq_eq_false_iff_ne, bne_iff_ne, bne_eq_false_iff_eq, ne_eq] at hh; first | done | omega | (simp at hh; done)
    try rw [hh]
    clear hh
    conv => whnf
    rw [len8, w64 (x := (8 : Int) + (x.length : Int)) (by omega) (by omega)]
    refine Branch.of (fun hh => ?_) (fun hh => ?_)
    · exfalso; simp only [gt_iff_lt, ge_iff_le, decide_eq_true_eq, decide_eq_false_iff_not, beq_iff_eq, beq_eq_false_iff_ne, bne_iff_ne, bne_eq_false_iff_eq, ne_eq] at hh; first | done | omega | (simp at hh; done)
    try rw [hh]
    clear hh
    conv => whnf
    rw [show (((n : Nat) : Int) == 0) = false by rw [beq_eq_false_iff_ne]; omega, show (((w : Nat) : Int) != 1) = false by rw [bne_eq_false_iff_eq]; omega]
    conv => whnf
    refine Branch.of (fun hh => ?_) (fun hh => ?_)
    · exfalso; simp only [gt_iff_lt, ge_iff_le, decide_eq_true_eq, decide_eq_false_iff_not, beq_iff_eq, beq_eq_false_iff_ne, bne_iff_ne, bne_eq_false_iff_eq, ne_eq, len8] at hh; first | done | omega | (simp at hh; done)
    try rw [hh]
    clear hh
    conv => whnf
    refine ⟨by simp [by8]; omega, ?_⟩
    conv => whnf
    refine ⟨by simp [by8]; omega, ?_⟩
    conv => whnf
    rw [show List.replicate 0 (AV.sc (.int .u8 0)) ++ by8 q ++ by8 more = by8 (q ++ more) by simp [by8]]
    refine k4.mono fun r st e => ?_
    obtain ⟨rfl, rfl⟩ := e
    conv => whnf
    refine k3.mono fun r st e => ?_
    obtain ⟨rfl, rfl⟩ := e
    conv => whnf
    have hq2 := c_same q q (by omega) (m1 := .ro) (m2 := .ro) (.inr rfl) (.inr rfl)
    rw [beq_self_eq_true] at hq2
    refine hq2.mono fun r st e => ?_
    obtain ⟨rfl, rfl⟩ := e
    conv => whnf
    rw [len8]
    refine Branch.of (fun hh => ?_) (fun hh => ?_)
    rotate_left
    · exfalso; simp only [gt_iff_lt, ge_iff_le, decide_eq_true_eq, decide_eq_false_iff_not, beq_iff_eq, beq_eq_false_iff_ne, bne_iff_ne, bne_eq_false_iff_eq, ne_eq] at hh; first | done | omega | (simp at hh; done)
    try rw [hh]
    clear hh
    conv => whnf
    have hb2 := c_same b b (by omega) (m1 := .ro) (m2 := .ro) (.inr rfl) (.inr rfl)
    rw [beq_self_eq_true] at hb2
    refine hb2.mono fun r st e => ?_
    obtain ⟨rfl, rfl⟩ := e
    conv => whnf
    refine c_crcawake.mono fun r st e => ?_
    obtain ⟨rfl, rfl⟩ := e
    conv => whnf
    refine ⟨false, [], ?_⟩
    conv => whnf
  · conv => whnf
    rw [show (((w : Nat) : Int) != 1) = true by rw [bne_iff_ne]; omega]
    conv => whnf
    refine Branch.of (fun hh => ?_) (fun hh => ?_)
    · exfalso; simp only [gt_iff_lt, ge_iff_le, decide_eq_true_eq, decide_eq_false_iff_not, beq_iff_eq, beq_eq_false_iff_ne, bne_iff_ne, bne_eq_false_iff_eq, ne_eq, len8] at hh; first | done | omega | (simp at hh; done)
    try rw [hh]
    clear hh
    conv => whnf
    refine ⟨by simp [by8]; omega, ?_⟩
    conv => whnf
    refine ⟨by simp [by8]; omega, ?_⟩
    conv => whnf
    rw [show List.replicate 0 (AV.sc (.int .u8 0)) ++ by8 q ++ by8 more = by8 (q ++ more) by simp [by8]]
    refine k4.mono fun r st e => ?_
    obtain ⟨rfl, rfl⟩ := e
    conv => whnf
    refine k3.mono fun r st e => ?_
    obtain ⟨rfl, rfl⟩ := e
    conv => whnf
    have hq2 := c_same q q (by omega) (m1 := .ro) (m2 := .ro) (.inr rfl) (.inr rfl)
    rw [beq_self_eq_true] at hq2
    refine hq2.mono fun r st e => ?_
    obtain ⟨rfl, rfl⟩ := e
    conv => whnf
    rw [len8]
    refine Branch.of (fun hh => ?_) (fun hh => ?_)
    rotate_left
    · exfalso; simp only [gt_iff_lt, ge_iff_le, decide_eq_true_eq, decide_eq_false_iff_not, beq_iff_eq, beq_eq_false_iff_ne, bne_iff_ne, bne_eq_false_iff_eq, ne_eq] at hh; first | done | omega | (simp at hh; done)
    try rw [hh]
    clear hh
    conv => whnf
    have hb2 := c_same b b (by omega) (m1 := .ro) (m2 := .ro) (.inr rfl) (.inr rfl)
    rw [beq_self_eq_true] at hb2
    refine hb2.mono fun r st e => ?_
    obtain ⟨rfl, rfl⟩ := e
    conv => whnf
    refine c_crcawake.mono fun r st e => ?_
    obtain ⟨rfl, rfl⟩ := e
    conv => whnf
    refine ⟨false, [], ?_⟩
    conv => whnf
theorem c_reclaw (b more : List UInt8) : FnOK Try.prog D 7 [(AV.sl .lf (by8 (b)) .ro), (AV.sl .lf (by8 (more)) .ro)] [] (fun r _ => r = (AV.sc (.bool (true)))) := by
  by_cases h1 : b.length ≤ 1000 ∧ more.length ≤ 1000
  · have hc := nxt_cases more
    have hx := nxt_len more
    have hh := how_of (nxt more).2.2 (by omega)
    have he : ((nxt more).2.2 = 0 ∧ how (nxt more).2.2 = 1 ∧ (nxt more).2.1 = 8 + (nxt more).1.length) ∨ (how (nxt more).2.2 ≠ 1 ∧ (nxt more).2.1 = 0) := by
      rcases hc with ⟨h2, h3⟩ | ⟨h2 | h2, h3⟩
      · exact .inl ⟨h2, by rw [h2]; rfl, h3⟩
      · exact .inr ⟨by rw [h2]; decide, h3⟩
      · exact .inr ⟨by rw [h2]; decide, h3⟩
    by_cases h0 : b.length = 0
    · obtain rfl : b = [] := List.eq_nil_of_length_eq_zero h0
      exact c_recl0 more (nxt more).1 h1.2 (by omega) _ _ _ he hh (c_next more (by omega)) (c_refnext more (by omega))
    · have k4 := c_next (rec b ++ more) (by rw [List.length_append, rec_len]; omega)
      rw [nxt_rec b more (by omega) (by omega)] at k4
      refine c_recl1 b more (nxt more).1 (by omega) h1.1 h1.2 (by omega) _ _ _ he hh (c_next more (by omega)) (c_refnext more (by omega)) (rec b) (rec_len b) (c_record b (by omega) (by omega)) (c_record2 b (by omega)) ?_
      rw [rec_len, Nat.add_comm b.length 8]
      exact k4
  · refine fnok_of_W hmix tabOK Try.func7 rfl rfl (Nat.le_of_ble_eq_true rfl) ?_
    conv => whnf
    by_cases h2 : b.length ≤ 1000
    · refine Branch.of (fun hh => ?_) (fun hh => ?_)
      · exfalso; simp only [gt_iff_lt, ge_iff_le, decide_eq_true_eq, decide_eq_false_iff_not, beq_iff_eq, beq_eq_false_iff_ne, bne_iff_ne, bne_eq_false_iff_eq, ne_eq, len8] at hh; first | done | omega | (simp at hh; done)
      try rw [hh]
      clear hh
      conv => whnf
      refine Branch.of (fun hh => ?_) (fun hh => ?_)
      rotate_left
      · exfalso; simp only [gt_iff_lt, ge_iff_le, decide_eq_true_eq, decide_eq_false_iff_not, beq_iff_eq, beq_eq_false_iff_ne, bne_iff_ne, bne_eq_false_iff_eq, ne_eq, len8] at hh; first | done | omega | (simp at hh; done)
      try rw [hh]
      clear hh
      conv => whnf
      refine c_crcawake.mono fun r st e => ?_
      obtain ⟨rfl, rfl⟩ := e
      conv => whnf
      refine ⟨false, [], ?_⟩
      conv => whnf
    · refine Branch.of (fun hh => ?_) (fun hh => ?_)
      rotate_left
      · exfalso; simp only [gt_iff_lt, ge_iff_le, decide_eq_true_eq, decide_eq_false_iff_not, beq_iff_eq, beq_eq_false_iff_ne, bne_iff_ne, bne_eq_false_iff_eq, ne_eq, len8] at hh; first | done | omega | (simp at hh; done)
      try rw [hh]
      clear hh
      conv => whnf
      refine c_crcawake.mono fun r st e => ?_
      obtain ⟨rfl, rfl⟩ := e
      conv => whnf
      refine ⟨false, [], ?_⟩
      conv => whnf
end Go.WL.T1
