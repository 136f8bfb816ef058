/- The functions of the program that are walked through, written out for the engine (printed by wip/tools/Print.lean from the dump), and the kernel's check of each against the program. -/
import Derived.Test.YtflkcganpgjkkaaDoorEngX
import Derived.Test.YtflkcganpgjkkaaDoorChecked
import Derived.KernelRfl
namespace Go.Proofs.YtflkcganpgjkkaaDoor.Sf
open Go Go.Sx
set_option maxRecDepth 100000
set_option linter.unusedSimpArgs false
set_option linter.unusedVariables false

/-- custody/custodylaw32.TamperCommandsMatchSpec -/
def sf3 : SF := ⟨97, [.t 6],
 .seq (.reg [⟨(some 3), .box 24 (.t 0), none, [0], [], []⟩,
   ⟨(some 5), .box 25 (.t 2), none, [2], [], []⟩,
   ⟨(some 6), .mv (.c (.bool false)), none, [6], [], []⟩])
  (.seq (.reg [⟨(some 20), .callp 9 [], none, [], [], []⟩,
    ⟨(some 7), .mv (.t 20), none, [20], [], []⟩])
   (.seq (.reg [⟨(some 22), .load (some 6) (.t 3), none, [], [], []⟩,
     ⟨(some 23), .mv (.t 1), none, [], [], []⟩,
     ⟨(some 24), .callp 10 [.t 22, .t 23], none, [22, 23], [], []⟩,
     ⟨(some 21), .mv (.t 24), none, [24], [], []⟩,
     ⟨(some 25), .ext (.t 21) 0, none, [], [], []⟩,
     ⟨(some 26), .ext (.t 21) 1, none, [21], [], []⟩,
     ⟨(some 8), .new 24 [.int .i64 0, .int .i64 0, .int .i64 0, .int .i64 0, .int .i64 0, .int .i64 0], none, [], [], []⟩,
     ⟨none, .store 6 (.t 8) (.t 25), none, [25], [], []⟩,
     ⟨(some 9), .mv (.t 26), none, [26], [], []⟩])
    (.seq (.reg [⟨(some 28), .load (some 6) (.t 3), none, [], [], []⟩,
      ⟨(some 29), .mv (.t 1), none, [1], [], []⟩,
      ⟨(some 30), .callp 11 [.t 28, .t 29], none, [28, 29], [], []⟩,
      ⟨(some 27), .mv (.t 30), none, [30], [], []⟩,
      ⟨(some 31), .ext (.t 27) 0, none, [], [], []⟩,
      ⟨(some 32), .ext (.t 27) 1, none, [27], [], []⟩,
      ⟨(some 10), .new 24 [.int .i64 0, .int .i64 0, .int .i64 0, .int .i64 0, .int .i64 0, .int .i64 0], none, [], [], []⟩,
      ⟨none, .store 6 (.t 10) (.t 31), none, [31], [], []⟩,
      ⟨(some 11), .mv (.t 32), none, [32], [], []⟩])
     (.seq (.reg [⟨(some 34), .load (some 6) (.t 3), none, [], [], []⟩,
       ⟨(some 35), .callp 12 [.t 34], none, [34], [], []⟩,
       ⟨(some 33), .mv (.t 35), none, [35], [], []⟩,
       ⟨(some 36), .ext (.t 33) 0, none, [], [], []⟩,
       ⟨(some 37), .ext (.t 33) 1, none, [33], [], []⟩,
       ⟨(some 12), .new 24 [.int .i64 0, .int .i64 0, .int .i64 0, .int .i64 0, .int .i64 0, .int .i64 0], none, [], [], []⟩,
       ⟨none, .store 6 (.t 12) (.t 36), none, [36], [], []⟩,
       ⟨(some 13), .mv (.t 37), none, [37], [], []⟩])
      (.seq (.reg [⟨(some 39), .load (some 6) (.t 3), none, [], [], []⟩,
        ⟨(some 40), .callp 13 [.t 39], none, [39], [], []⟩,
        ⟨(some 38), .mv (.t 40), none, [40], [], []⟩,
        ⟨(some 41), .ext (.t 38) 0, none, [], [], []⟩,
        ⟨(some 42), .ext (.t 38) 1, none, [38], [], []⟩,
        ⟨(some 14), .new 24 [.int .i64 0, .int .i64 0, .int .i64 0, .int .i64 0, .int .i64 0, .int .i64 0], none, [], [], []⟩,
        ⟨none, .store 6 (.t 14) (.t 41), none, [41], [], []⟩,
        ⟨(some 15), .mv (.t 42), none, [42], [], []⟩])
       (.seq (.reg [⟨(some 44), .load (some 6) (.t 3), none, [], [], []⟩,
         ⟨(some 45), .callp 14 [.t 44], none, [44], [], []⟩,
         ⟨(some 43), .mv (.t 45), none, [45], [], []⟩,
         ⟨(some 46), .ext (.t 43) 0, none, [], [], []⟩,
         ⟨(some 47), .ext (.t 43) 1, none, [43], [], []⟩,
         ⟨(some 16), .new 24 [.int .i64 0, .int .i64 0, .int .i64 0, .int .i64 0, .int .i64 0, .int .i64 0], none, [], [], []⟩,
         ⟨none, .store 6 (.t 16) (.t 46), none, [46], [], []⟩,
         ⟨(some 17), .mv (.t 47), none, [47], [], []⟩])
        (.seq (.reg [⟨(some 49), .load (some 6) (.t 3), none, [3], [], []⟩,
          ⟨(some 50), .callp 15 [.t 49], none, [49], [], []⟩,
          ⟨(some 48), .mv (.t 50), none, [50], [], []⟩,
          ⟨(some 51), .ext (.t 48) 0, none, [], [], []⟩,
          ⟨(some 52), .ext (.t 48) 1, none, [48], [], []⟩,
          ⟨(some 18), .new 24 [.int .i64 0, .int .i64 0, .int .i64 0, .int .i64 0, .int .i64 0, .int .i64 0], none, [], [], []⟩,
          ⟨none, .store 6 (.t 18) (.t 51), none, [51], [], []⟩,
          ⟨(some 19), .mv (.t 52), none, [52], [], []⟩])
         (.seq (.regP 41 [⟨(some 53), .mv (.t 7), none, [], [], []⟩,
           ⟨(some 54), .mv (.t 53), none, [], [0], []⟩,
           ⟨(some 55), .load (some 6) (.t 8), (some (54, true)), [], [0, 1], [56]⟩,
           ⟨(some 56), .load (some 6) (.t 10), (some (54, true)), [], [0, 1], [55]⟩,
           ⟨(some 57), .eqv false [.i .i64, .i .i64, .i .i64, .i .i64, .i .i64, .i .i64] (.t 55) (.t 56), (some (54, true)), [], [0, 1, 2, 3], []⟩,
           ⟨(some 58), .pick (.t 54) (.t 57) (.c (.bool false)), none, [], [0, 1, 2, 3, 4], []⟩,
           ⟨(some 59), .mv (.t 58), none, [], [0, 1, 2, 3, 4, 5], []⟩,
           ⟨(some 60), .mv (.t 9), (some (59, true)), [], [0, 1, 2, 3, 4, 5, 6], [61]⟩,
           ⟨(some 61), .mv (.t 11), (some (59, true)), [], [0, 1, 2, 3, 4, 5, 6], [60]⟩,
           ⟨(some 62), .bin .eql (.t 60) (.t 61), (some (59, true)), [], [0, 1, 2, 3, 4, 5, 6, 7, 8], []⟩,
           ⟨(some 63), .pick (.t 59) (.t 62) (.c (.bool false)), none, [], [0, 1, 2, 3, 4, 5, 6, 7, 8, 9], []⟩,
           ⟨(some 64), .mv (.t 63), none, [], [0, 1, 2, 3, 4, 5, 6, 7, 8, 9, 10], []⟩,
           ⟨(some 65), .load (some 6) (.t 12), (some (64, true)), [], [0, 1, 2, 3, 4, 5, 6, 7, 8, 9, 10, 11], [66]⟩,
           ⟨(some 66), .load (some 6) (.t 14), (some (64, true)), [], [0, 1, 2, 3, 4, 5, 6, 7, 8, 9, 10, 11], [65]⟩,
           ⟨(some 67), .eqv false [.i .i64, .i .i64, .i .i64, .i .i64, .i .i64, .i .i64] (.t 65) (.t 66), (some (64, true)), [], [0, 1, 2, 3, 4, 5, 6, 7, 8, 9, 10, 11, 12, 13], []⟩,
           ⟨(some 68), .pick (.t 64) (.t 67) (.c (.bool false)), none, [], [0, 1, 2, 3, 4, 5, 6, 7, 8, 9, 10, 11, 12, 13, 14], []⟩,
           ⟨(some 69), .mv (.t 68), none, [], [0, 1, 2, 3, 4, 5, 6, 7, 8, 9, 10, 11, 12, 13, 14, 15], []⟩,
           ⟨(some 70), .mv (.t 13), (some (69, true)), [], [0, 1, 2, 3, 4, 5, 6, 7, 8, 9, 10, 11, 12, 13, 14, 15, 16], [71]⟩,
           ⟨(some 71), .mv (.t 15), (some (69, true)), [], [0, 1, 2, 3, 4, 5, 6, 7, 8, 9, 10, 11, 12, 13, 14, 15, 16], [70]⟩,
           ⟨(some 72), .bin .eql (.t 70) (.t 71), (some (69, true)), [], [0, 1, 2, 3, 4, 5, 6, 7, 8, 9, 10, 11, 12, 13, 14, 15, 16, 17, 18], []⟩,
           ⟨(some 73), .pick (.t 69) (.t 72) (.c (.bool false)), none, [], [0, 1, 2, 3, 4, 5, 6, 7, 8, 9, 10, 11, 12, 13, 14, 15, 16, 17, 18, 19], []⟩,
           ⟨(some 74), .mv (.t 73), none, [], [0, 1, 2, 3, 4, 5, 6, 7, 8, 9, 10, 11, 12, 13, 14, 15, 16, 17, 18, 19, 20], []⟩,
           ⟨(some 75), .load (some 6) (.t 16), (some (74, true)), [], [0, 1, 2, 3, 4, 5, 6, 7, 8, 9, 10, 11, 12, 13, 14, 15, 16, 17, 18, 19, 20, 21], [76]⟩,
           ⟨(some 76), .load (some 6) (.t 18), (some (74, true)), [], [0, 1, 2, 3, 4, 5, 6, 7, 8, 9, 10, 11, 12, 13, 14, 15, 16, 17, 18, 19, 20, 21], [75]⟩,
           ⟨(some 77), .eqv false [.i .i64, .i .i64, .i .i64, .i .i64, .i .i64, .i .i64] (.t 75) (.t 76), (some (74, true)), [], [0, 1, 2, 3, 4, 5, 6, 7, 8, 9, 10, 11, 12, 13, 14, 15, 16, 17, 18, 19, 20, 21, 22, 23], []⟩,
           ⟨(some 78), .pick (.t 74) (.t 77) (.c (.bool false)), none, [], [0, 1, 2, 3, 4, 5, 6, 7, 8, 9, 10, 11, 12, 13, 14, 15, 16, 17, 18, 19, 20, 21, 22, 23, 24], []⟩,
           ⟨(some 79), .mv (.t 78), none, [], [0, 1, 2, 3, 4, 5, 6, 7, 8, 9, 10, 11, 12, 13, 14, 15, 16, 17, 18, 19, 20, 21, 22, 23, 24, 25], []⟩,
           ⟨(some 80), .mv (.t 17), (some (79, true)), [], [0, 1, 2, 3, 4, 5, 6, 7, 8, 9, 10, 11, 12, 13, 14, 15, 16, 17, 18, 19, 20, 21, 22, 23, 24, 25, 26], [81]⟩,
           ⟨(some 81), .mv (.t 19), (some (79, true)), [], [0, 1, 2, 3, 4, 5, 6, 7, 8, 9, 10, 11, 12, 13, 14, 15, 16, 17, 18, 19, 20, 21, 22, 23, 24, 25, 26], [80]⟩,
           ⟨(some 82), .bin .eql (.t 80) (.t 81), (some (79, true)), [], [0, 1, 2, 3, 4, 5, 6, 7, 8, 9, 10, 11, 12, 13, 14, 15, 16, 17, 18, 19, 20, 21, 22, 23, 24, 25, 26, 27, 28], []⟩,
           ⟨(some 83), .pick (.t 79) (.t 82) (.c (.bool false)), none, [], [0, 1, 2, 3, 4, 5, 6, 7, 8, 9, 10, 11, 12, 13, 14, 15, 16, 17, 18, 19, 20, 21, 22, 23, 24, 25, 26, 27, 28, 29], []⟩,
           ⟨(some 84), .mv (.t 83), none, [], [0, 1, 2, 3, 4, 5, 6, 7, 8, 9, 10, 11, 12, 13, 14, 15, 16, 17, 18, 19, 20, 21, 22, 23, 24, 25, 26, 27, 28, 29, 30], []⟩,
           ⟨(some 85), .idxA (.t 5) (.c (.int .i64 0)) 2 1, (some (84, true)), [], [0, 1, 2, 3, 4, 5, 6, 7, 8, 9, 10, 11, 12, 13, 14, 15, 16, 17, 18, 19, 20, 21, 22, 23, 24, 25, 26, 27, 28, 29, 30, 31], [87, 88, 90, 91, 92, 93]⟩,
           ⟨(some 86), .load none (.t 85), (some (84, true)), [], [0, 1, 2, 3, 4, 5, 6, 7, 8, 9, 10, 11, 12, 13, 14, 15, 16, 17, 18, 19, 20, 21, 22, 23, 24, 25, 26, 27, 28, 29, 30, 31, 32], [87, 88, 90, 91, 92, 93]⟩,
           ⟨(some 87), .idxA (.t 5) (.c (.int .i64 1)) 2 1, (some (84, true)), [], [0, 1, 2, 3, 4, 5, 6, 7, 8, 9, 10, 11, 12, 13, 14, 15, 16, 17, 18, 19, 20, 21, 22, 23, 24, 25, 26, 27, 28, 29, 30, 31], [85, 86, 90, 91, 92, 93]⟩,
           ⟨(some 88), .load none (.t 87), (some (84, true)), [], [0, 1, 2, 3, 4, 5, 6, 7, 8, 9, 10, 11, 12, 13, 14, 15, 16, 17, 18, 19, 20, 21, 22, 23, 24, 25, 26, 27, 28, 29, 30, 31, 34], [85, 86, 90, 91, 92, 93]⟩,
           ⟨(some 89), .callp 16 [.t 86, .t 88], (some (84, true)), [], [0, 1, 2, 3, 4, 5, 6, 7, 8, 9, 10, 11, 12, 13, 14, 15, 16, 17, 18, 19, 20, 21, 22, 23, 24, 25, 26, 27, 28, 29, 30, 31, 32, 33, 34, 35], [90, 91, 92, 93]⟩,
           ⟨(some 90), .idxA (.t 5) (.c (.int .i64 0)) 2 1, (some (84, true)), [], [0, 1, 2, 3, 4, 5, 6, 7, 8, 9, 10, 11, 12, 13, 14, 15, 16, 17, 18, 19, 20, 21, 22, 23, 24, 25, 26, 27, 28, 29, 30, 31], [85, 86, 87, 88, 89, 92, 93]⟩,
           ⟨(some 91), .load none (.t 90), (some (84, true)), [], [0, 1, 2, 3, 4, 5, 6, 7, 8, 9, 10, 11, 12, 13, 14, 15, 16, 17, 18, 19, 20, 21, 22, 23, 24, 25, 26, 27, 28, 29, 30, 31, 37], [85, 86, 87, 88, 89, 92, 93]⟩,
           ⟨(some 92), .idxA (.t 5) (.c (.int .i64 1)) 2 1, (some (84, true)), [], [0, 1, 2, 3, 4, 5, 6, 7, 8, 9, 10, 11, 12, 13, 14, 15, 16, 17, 18, 19, 20, 21, 22, 23, 24, 25, 26, 27, 28, 29, 30, 31], [85, 86, 87, 88, 89, 90, 91]⟩,
           ⟨(some 93), .load none (.t 92), (some (84, true)), [5, 7, 8, 9, 10, 11, 12, 13, 14, 15, 16, 17, 18, 19, 53, 54, 55, 56, 57, 58, 59, 60, 61, 62, 63, 64, 65, 66, 67, 68, 69, 70, 71, 72, 73, 74, 75, 76, 77, 78, 79, 80, 81, 82, 83, 85, 86, 87, 88, 90, 92], [0, 1, 2, 3, 4, 5, 6, 7, 8, 9, 10, 11, 12, 13, 14, 15, 16, 17, 18, 19, 20, 21, 22, 23, 24, 25, 26, 27, 28, 29, 30, 31, 39], [85, 86, 87, 88, 89, 90, 91]⟩,
           ⟨(some 94), .callp 17 [.t 91, .t 93], (some (84, true)), [91, 93], [0, 1, 2, 3, 4, 5, 6, 7, 8, 9, 10, 11, 12, 13, 14, 15, 16, 17, 18, 19, 20, 21, 22, 23, 24, 25, 26, 27, 28, 29, 30, 31, 32, 33, 34, 35, 36, 37, 38, 39, 40], []⟩,
           ⟨(some 95), .bin .eql (.t 89) (.t 94), (some (84, true)), [89, 94], [0, 1, 2, 3, 4, 5, 6, 7, 8, 9, 10, 11, 12, 13, 14, 15, 16, 17, 18, 19, 20, 21, 22, 23, 24, 25, 26, 27, 28, 29, 30, 31, 32, 33, 34, 35, 36, 37, 38, 39, 40, 41], []⟩,
           ⟨(some 96), .pick (.t 84) (.t 95) (.c (.bool false)), none, [84, 95], [0, 1, 2, 3, 4, 5, 6, 7, 8, 9, 10, 11, 12, 13, 14, 15, 16, 17, 18, 19, 20, 21, 22, 23, 24, 25, 26, 27, 28, 29, 30, 31, 32, 33, 34, 35, 36, 37, 38, 39, 40, 41, 42], []⟩,
           ⟨(some 6), .mv (.t 96), none, [96], [0, 1, 2, 3, 4, 5, 6, 7, 8, 9, 10, 11, 12, 13, 14, 15, 16, 17, 18, 19, 20, 21, 22, 23, 24, 25, 26, 27, 28, 29, 30, 31, 32, 33, 34, 35, 36, 37, 38, 39, 40, 41, 42, 43], []⟩])
          (.ret)))))))))⟩
theorem chk3 : chkF Tryd.prog 3 sf3 = true := by kernel_rfl

/-- custody/custodylaw32.TamperNeverCalmsDown -/
def sf4 : SF := ⟨124, [.t 6],
 .seq (.reg [⟨(some 3), .box 24 (.t 0), none, [0], [], []⟩,
   ⟨(some 4), .box 34 (.t 1), none, [1], [], []⟩,
   ⟨(some 6), .mv (.c (.bool false)), none, [6], [], []⟩])
  (.seq (.reg [⟨(some 17), .callp 9 [], none, [], [], []⟩,
    ⟨(some 7), .mv (.t 17), none, [17], [], []⟩])
   (.seq (.seq (.reg [⟨(some 18), .load (some 6) (.t 3), none, [], [], []⟩,
      ⟨(some 19), .callp 18 [.t 18], none, [18], [], []⟩,
      ⟨(some 20), .un .not (.t 19), none, [19], [], []⟩])
     (.cond (.t 20) (.seq (.reg [⟨(some 21), .mv (.t 7), none, [7], [], []⟩,
        ⟨(some 6), .mv (.t 21), none, [21], [], []⟩])
       (.ret))
      (.skip)))
    (.seq (.reg [⟨(some 23), .load (some 6) (.t 3), none, [], [], []⟩,
      ⟨(some 24), .load (some 2) (.t 4), none, [4], [], []⟩,
      ⟨(some 25), .mv (.t 2), none, [], [], []⟩,
      ⟨(some 26), .callp 19 [.t 23, .t 24, .t 25], none, [23, 24, 25], [], []⟩,
      ⟨(some 22), .mv (.t 26), none, [26], [], []⟩,
      ⟨(some 27), .ext (.t 22) 0, none, [], [], []⟩,
      ⟨(some 28), .ext (.t 22) 1, none, [22], [], []⟩,
      ⟨(some 8), .new 24 [.int .i64 0, .int .i64 0, .int .i64 0, .int .i64 0, .int .i64 0, .int .i64 0], none, [], [], []⟩,
      ⟨none, .store 6 (.t 8) (.t 27), none, [27], [], []⟩,
      ⟨(some 9), .mv (.t 28), none, [28], [], []⟩])
     (.seq (.reg [⟨(some 30), .load (some 6) (.t 3), none, [], [], []⟩,
       ⟨(some 31), .mv (.t 2), none, [], [], []⟩,
       ⟨(some 32), .callp 20 [.t 30, .t 31], none, [30, 31], [], []⟩,
       ⟨(some 29), .mv (.t 32), none, [32], [], []⟩,
       ⟨(some 33), .ext (.t 29) 0, none, [], [], []⟩,
       ⟨(some 34), .ext (.t 29) 1, none, [29], [], []⟩,
       ⟨(some 10), .new 24 [.int .i64 0, .int .i64 0, .int .i64 0, .int .i64 0, .int .i64 0, .int .i64 0], none, [], [], []⟩,
       ⟨none, .store 6 (.t 10) (.t 33), none, [33], [], []⟩,
       ⟨(some 11), .mv (.t 34), none, [34], [], []⟩])
      (.seq (.reg [⟨(some 36), .load (some 6) (.t 3), none, [], [], []⟩,
        ⟨(some 37), .mv (.t 2), none, [2], [], []⟩,
        ⟨(some 38), .callp 10 [.t 36, .t 37], none, [36, 37], [], []⟩,
        ⟨(some 35), .mv (.t 38), none, [38], [], []⟩,
        ⟨(some 39), .ext (.t 35) 0, none, [], [], []⟩,
        ⟨(some 40), .ext (.t 35) 1, none, [35], [], []⟩,
        ⟨(some 12), .new 24 [.int .i64 0, .int .i64 0, .int .i64 0, .int .i64 0, .int .i64 0, .int .i64 0], none, [], [], []⟩,
        ⟨none, .store 6 (.t 12) (.t 39), none, [39], [], []⟩,
        ⟨(some 13), .mv (.t 40), none, [40], [], []⟩])
       (.seq (.reg [⟨(some 41), .mv (.t 9), none, [9], [], []⟩,
         ⟨(some 42), .bin .neq (.t 41) (.c (.int .i64 0)), none, [41], [], []⟩,
         ⟨(some 43), .mv (.t 42), none, [42], [], []⟩,
         ⟨(some 44), .load (some 6) (.t 8), (some (43, false)), [], [], []⟩,
         ⟨(some 45), .callp 18 [.t 44], (some (43, false)), [44], [], []⟩,
         ⟨(some 46), .mv (.t 45), (some (43, false)), [45], [], []⟩,
         ⟨(some 47), .fld (.t 8) 0, (some (46, true)), [], [], []⟩,
         ⟨(some 48), .load none (.t 47), (some (46, true)), [47], [], []⟩,
         ⟨(some 49), .fld (.t 3) 0, (some (46, true)), [], [], []⟩,
         ⟨(some 50), .load none (.t 49), (some (46, true)), [49], [], []⟩,
         ⟨(some 51), .bin .geq (.t 48) (.t 50), (some (46, true)), [48, 50], [], []⟩,
         ⟨(some 52), .mv (.t 51), (some (46, true)), [51], [], []⟩,
         ⟨(some 53), .fld (.t 3) 0, (some (52, false)), [], [], []⟩,
         ⟨(some 54), .load none (.t 53), (some (52, false)), [53], [], []⟩,
         ⟨(some 55), .bin .eql (.t 54) (.c (.int .i64 2)), (some (52, false)), [54], [], []⟩,
         ⟨(some 56), .mv (.t 55), (some (52, false)), [55], [], []⟩,
         ⟨(some 57), .fld (.t 8) 0, (some (56, true)), [], [], []⟩,
         ⟨(some 58), .load none (.t 57), (some (56, true)), [57], [], []⟩,
         ⟨(some 59), .bin .eql (.t 58) (.c (.int .i64 1)), (some (56, true)), [58], [], []⟩,
         ⟨(some 60), .pick (.t 56) (.t 59) (.c (.bool false)), (some (52, false)), [56, 59], [], []⟩,
         ⟨(some 61), .mv (.t 60), (some (52, false)), [60], [], []⟩,
         ⟨(some 62), .load (some 6) (.t 8), (some (61, true)), [8], [], []⟩,
         ⟨(some 63), .callp 21 [.t 62], (some (61, true)), [62], [], []⟩,
         ⟨(some 64), .bin .eql (.t 63) (.c (.int .i64 0)), (some (61, true)), [63], [], []⟩,
         ⟨(some 65), .pick (.t 61) (.t 64) (.c (.bool false)), (some (52, false)), [61, 64], [], []⟩,
         ⟨(some 66), .pick (.t 52) (.c (.bool true)) (.t 65), (some (46, true)), [52, 65], [], []⟩,
         ⟨(some 67), .pick (.t 46) (.t 66) (.c (.bool false)), (some (43, false)), [46, 66], [], []⟩,
         ⟨(some 68), .pick (.t 43) (.c (.bool true)) (.t 67), none, [43, 67], [], []⟩,
         ⟨(some 14), .mv (.t 68), none, [68], [], []⟩])
        (.seq (.reg [⟨(some 69), .mv (.t 11), none, [11], [], []⟩,
          ⟨(some 70), .bin .neq (.t 69) (.c (.int .i64 0)), none, [69], [], []⟩,
          ⟨(some 71), .mv (.t 70), none, [70], [], []⟩,
          ⟨(some 72), .load (some 6) (.t 10), (some (71, false)), [], [], []⟩,
          ⟨(some 73), .callp 18 [.t 72], (some (71, false)), [72], [], []⟩,
          ⟨(some 74), .mv (.t 73), (some (71, false)), [73], [], []⟩,
          ⟨(some 75), .fld (.t 10) 0, (some (74, true)), [], [], []⟩,
          ⟨(some 76), .load none (.t 75), (some (74, true)), [75], [], []⟩,
          ⟨(some 77), .fld (.t 3) 0, (some (74, true)), [], [], []⟩,
          ⟨(some 78), .load none (.t 77), (some (74, true)), [77], [], []⟩,
          ⟨(some 79), .bin .eql (.t 76) (.t 78), (some (74, true)), [76, 78], [], []⟩,
          ⟨(some 80), .mv (.t 79), (some (74, true)), [79], [], []⟩,
          ⟨(some 81), .fld (.t 3) 0, (some (80, false)), [], [], []⟩,
          ⟨(some 82), .load none (.t 81), (some (80, false)), [81], [], []⟩,
          ⟨(some 83), .bin .eql (.t 82) (.c (.int .i64 2)), (some (80, false)), [82], [], []⟩,
          ⟨(some 84), .mv (.t 83), (some (80, false)), [83], [], []⟩,
          ⟨(some 85), .fld (.t 10) 0, (some (84, true)), [], [], []⟩,
          ⟨(some 86), .load none (.t 85), (some (84, true)), [85], [], []⟩,
          ⟨(some 87), .bin .eql (.t 86) (.c (.int .i64 1)), (some (84, true)), [86], [], []⟩,
          ⟨(some 88), .pick (.t 84) (.t 87) (.c (.bool false)), (some (80, false)), [84, 87], [], []⟩,
          ⟨(some 89), .mv (.t 88), (some (80, false)), [88], [], []⟩,
          ⟨(some 90), .load (some 6) (.t 10), (some (89, true)), [10], [], []⟩,
          ⟨(some 91), .callp 21 [.t 90], (some (89, true)), [90], [], []⟩,
          ⟨(some 92), .bin .eql (.t 91) (.c (.int .i64 0)), (some (89, true)), [91], [], []⟩,
          ⟨(some 93), .pick (.t 89) (.t 92) (.c (.bool false)), (some (80, false)), [89, 92], [], []⟩,
          ⟨(some 94), .pick (.t 80) (.c (.bool true)) (.t 93), (some (74, true)), [80, 93], [], []⟩,
          ⟨(some 95), .pick (.t 74) (.t 94) (.c (.bool false)), (some (71, false)), [74, 94], [], []⟩,
          ⟨(some 96), .pick (.t 71) (.c (.bool true)) (.t 95), none, [71, 95], [], []⟩,
          ⟨(some 15), .mv (.t 96), none, [96], [], []⟩])
         (.seq (.reg [⟨(some 97), .mv (.t 13), none, [13], [], []⟩,
           ⟨(some 98), .bin .neq (.t 97) (.c (.int .i64 0)), none, [97], [], []⟩,
           ⟨(some 99), .mv (.t 98), none, [98], [], []⟩,
           ⟨(some 100), .fld (.t 3) 0, (some (99, false)), [3], [], []⟩,
           ⟨(some 101), .load none (.t 100), (some (99, false)), [100], [], []⟩,
           ⟨(some 102), .bin .eql (.t 101) (.c (.int .i64 3)), (some (99, false)), [101], [], []⟩,
           ⟨(some 103), .mv (.t 102), (some (99, false)), [102], [], []⟩,
           ⟨(some 104), .fld (.t 12) 0, (some (103, true)), [], [], []⟩,
           ⟨(some 105), .load none (.t 104), (some (103, true)), [104], [], []⟩,
           ⟨(some 106), .bin .eql (.t 105) (.c (.int .i64 1)), (some (103, true)), [105], [], []⟩,
           ⟨(some 107), .pick (.t 103) (.t 106) (.c (.bool false)), (some (99, false)), [103, 106], [], []⟩,
           ⟨(some 108), .mv (.t 107), (some (99, false)), [107], [], []⟩,
           ⟨(some 109), .load (some 6) (.t 12), (some (108, true)), [12], [], []⟩,
           ⟨(some 110), .callp 21 [.t 109], (some (108, true)), [109], [], []⟩,
           ⟨(some 111), .bin .eql (.t 110) (.c (.int .i64 0)), (some (108, true)), [110], [], []⟩,
           ⟨(some 112), .pick (.t 108) (.t 111) (.c (.bool false)), (some (99, false)), [108, 111], [], []⟩,
           ⟨(some 113), .pick (.t 99) (.c (.bool true)) (.t 112), none, [99, 112], [], []⟩,
           ⟨(some 16), .mv (.t 113), none, [113], [], []⟩])
          (.seq (.reg [⟨(some 114), .mv (.t 7), none, [7], [], []⟩,
            ⟨(some 115), .mv (.t 114), none, [114], [], []⟩,
            ⟨(some 116), .mv (.t 14), (some (115, true)), [14], [], []⟩,
            ⟨(some 117), .pick (.t 115) (.t 116) (.c (.bool false)), none, [115, 116], [], []⟩,
            ⟨(some 118), .mv (.t 117), none, [117], [], []⟩,
            ⟨(some 119), .mv (.t 15), (some (118, true)), [15], [], []⟩,
            ⟨(some 120), .pick (.t 118) (.t 119) (.c (.bool false)), none, [118, 119], [], []⟩,
            ⟨(some 121), .mv (.t 120), none, [120], [], []⟩,
            ⟨(some 122), .mv (.t 16), (some (121, true)), [16], [], []⟩,
            ⟨(some 123), .pick (.t 121) (.t 122) (.c (.bool false)), none, [121, 122], [], []⟩,
            ⟨(some 6), .mv (.t 123), none, [123], [], []⟩])
           (.ret))))))))))⟩
theorem chk4 : chkF Tryd.prog 4 sf4 = true := by kernel_rfl

/-- custody/custodylaw32.TamperTimeAdds -/
def sf5 : SF := ⟨59, [.t 6],
 .seq (.reg [⟨(some 3), .box 24 (.t 0), none, [0], [], []⟩,
   ⟨(some 6), .mv (.c (.bool false)), none, [6], [], []⟩])
  (.seq (.reg [⟨(some 14), .callp 9 [], none, [], [], []⟩,
    ⟨(some 7), .mv (.t 14), none, [14], [], []⟩])
   (.seq (.reg [⟨(some 16), .load (some 6) (.t 3), none, [], [], []⟩,
     ⟨(some 17), .mv (.t 1), none, [], [], []⟩,
     ⟨(some 18), .callp 20 [.t 16, .t 17], none, [16, 17], [], []⟩,
     ⟨(some 15), .mv (.t 18), none, [18], [], []⟩,
     ⟨(some 19), .ext (.t 15) 0, none, [], [], []⟩,
     ⟨(some 20), .ext (.t 15) 1, none, [15], [], []⟩,
     ⟨(some 8), .new 24 [.int .i64 0, .int .i64 0, .int .i64 0, .int .i64 0, .int .i64 0, .int .i64 0], none, [], [], []⟩,
     ⟨none, .store 6 (.t 8) (.t 19), none, [19], [], []⟩,
     ⟨(some 9), .mv (.t 20), none, [20], [], []⟩])
    (.seq (.seq (.reg [⟨(some 21), .mv (.t 9), none, [9], [], []⟩,
       ⟨(some 22), .bin .neq (.t 21) (.c (.int .i64 0)), none, [21], [], []⟩,
       ⟨(some 23), .mv (.t 22), none, [22], [], []⟩,
       ⟨(some 24), .mv (.t 2), (some (23, false)), [], [], []⟩,
       ⟨(some 25), .mv (.t 1), (some (23, false)), [1], [], []⟩,
       ⟨(some 26), .bin .lss (.t 24) (.t 25), (some (23, false)), [24, 25], [], []⟩,
       ⟨(some 27), .pick (.t 23) (.c (.bool true)) (.t 26), none, [23, 26], [], []⟩,
       ⟨(some 28), .mv (.t 27), none, [27], [], []⟩,
       ⟨(some 29), .mv (.t 2), (some (28, false)), [], [], []⟩,
       ⟨(some 30), .bin .gtr (.t 29) (.c (.int .i64 1099511627776)), (some (28, false)), [29], [], []⟩,
       ⟨(some 31), .pick (.t 28) (.c (.bool true)) (.t 30), none, [28, 30], [], []⟩])
      (.cond (.t 31) (.seq (.reg [⟨(some 32), .mv (.t 7), none, [7], [], []⟩,
         ⟨(some 6), .mv (.t 32), none, [32], [], []⟩])
        (.ret))
       (.skip)))
     (.seq (.reg [⟨(some 34), .load (some 6) (.t 8), none, [8], [], []⟩,
       ⟨(some 35), .mv (.t 2), none, [], [], []⟩,
       ⟨(some 36), .callp 20 [.t 34, .t 35], none, [34, 35], [], []⟩,
       ⟨(some 33), .mv (.t 36), none, [36], [], []⟩,
       ⟨(some 37), .ext (.t 33) 0, none, [], [], []⟩,
       ⟨(some 38), .ext (.t 33) 1, none, [33], [], []⟩,
       ⟨(some 10), .new 24 [.int .i64 0, .int .i64 0, .int .i64 0, .int .i64 0, .int .i64 0, .int .i64 0], none, [], [], []⟩,
       ⟨none, .store 6 (.t 10) (.t 37), none, [37], [], []⟩,
       ⟨(some 11), .mv (.t 38), none, [38], [], []⟩])
      (.seq (.reg [⟨(some 40), .load (some 6) (.t 3), none, [3], [], []⟩,
        ⟨(some 41), .mv (.t 2), none, [2], [], []⟩,
        ⟨(some 42), .callp 20 [.t 40, .t 41], none, [40, 41], [], []⟩,
        ⟨(some 39), .mv (.t 42), none, [42], [], []⟩,
        ⟨(some 43), .ext (.t 39) 0, none, [], [], []⟩,
        ⟨(some 44), .ext (.t 39) 1, none, [39], [], []⟩,
        ⟨(some 12), .new 24 [.int .i64 0, .int .i64 0, .int .i64 0, .int .i64 0, .int .i64 0, .int .i64 0], none, [], [], []⟩,
        ⟨none, .store 6 (.t 12) (.t 43), none, [43], [], []⟩,
        ⟨(some 13), .mv (.t 44), none, [44], [], []⟩])
       (.seq (.reg [⟨(some 45), .mv (.t 7), none, [7], [], []⟩,
         ⟨(some 46), .mv (.t 45), none, [45], [], []⟩,
         ⟨(some 47), .mv (.t 11), (some (46, true)), [11], [], []⟩,
         ⟨(some 48), .bin .eql (.t 47) (.c (.int .i64 0)), (some (46, true)), [47], [], []⟩,
         ⟨(some 49), .pick (.t 46) (.t 48) (.c (.bool false)), none, [46, 48], [], []⟩,
         ⟨(some 50), .mv (.t 49), none, [49], [], []⟩,
         ⟨(some 51), .mv (.t 13), (some (50, true)), [13], [], []⟩,
         ⟨(some 52), .bin .eql (.t 51) (.c (.int .i64 0)), (some (50, true)), [51], [], []⟩,
         ⟨(some 53), .pick (.t 50) (.t 52) (.c (.bool false)), none, [50, 52], [], []⟩,
         ⟨(some 54), .mv (.t 53), none, [53], [], []⟩,
         ⟨(some 55), .load (some 6) (.t 10), (some (54, true)), [10], [], []⟩,
         ⟨(some 56), .load (some 6) (.t 12), (some (54, true)), [12], [], []⟩,
         ⟨(some 57), .eqv false [.i .i64, .i .i64, .i .i64, .i .i64, .i .i64, .i .i64] (.t 55) (.t 56), (some (54, true)), [55, 56], [], []⟩,
         ⟨(some 58), .pick (.t 54) (.t 57) (.c (.bool false)), none, [54, 57], [], []⟩,
         ⟨(some 6), .mv (.t 58), none, [58], [], []⟩])
        (.ret)))))))⟩
theorem chk5 : chkF Tryd.prog 5 sf5 = true := by kernel_rfl

/-- custody/custodylaw32.TamperMeshIsFatal -/
def sf6 : SF := ⟨93, [.t 6],
 .seq (.reg [⟨(some 3), .box 24 (.t 0), none, [0], [], []⟩,
   ⟨(some 6), .mv (.c (.bool false)), none, [6], [], []⟩])
  (.seq (.reg [⟨(some 15), .callp 9 [], none, [], [], []⟩,
    ⟨(some 7), .mv (.t 15), none, [15], [], []⟩])
   (.seq (.seq (.reg [⟨(some 16), .load (some 6) (.t 3), none, [], [], []⟩,
      ⟨(some 17), .callp 18 [.t 16], none, [16], [], []⟩,
      ⟨(some 18), .un .not (.t 17), none, [17], [], []⟩,
      ⟨(some 19), .mv (.t 18), none, [18], [], []⟩,
      ⟨(some 20), .fld (.t 3) 0, (some (19, false)), [], [], []⟩,
      ⟨(some 21), .load none (.t 20), (some (19, false)), [20], [], []⟩,
      ⟨(some 22), .bin .eql (.t 21) (.c (.int .i64 5)), (some (19, false)), [21], [], []⟩,
      ⟨(some 23), .pick (.t 19) (.c (.bool true)) (.t 22), none, [19, 22], [], []⟩,
      ⟨(some 24), .mv (.t 23), none, [23], [], []⟩,
      ⟨(some 25), .mv (.t 1), (some (24, false)), [], [], []⟩,
      ⟨(some 26), .bin .lss (.t 25) (.c (.int .i64 1)), (some (24, false)), [25], [], []⟩,
      ⟨(some 27), .pick (.t 24) (.c (.bool true)) (.t 26), none, [24, 26], [], []⟩,
      ⟨(some 28), .mv (.t 27), none, [27], [], []⟩,
      ⟨(some 29), .mv (.t 2), (some (28, false)), [], [], []⟩,
      ⟨(some 30), .len false (.t 29), (some (28, false)), [29], [], []⟩,
      ⟨(some 31), .bin .gtr (.t 30) (.c (.int .i64 60)), (some (28, false)), [30], [], []⟩,
      ⟨(some 32), .pick (.t 28) (.c (.bool true)) (.t 31), none, [28, 31], [], []⟩])
     (.cond (.t 32) (.seq (.reg [⟨(some 33), .mv (.t 7), none, [7], [], []⟩,
        ⟨(some 6), .mv (.t 33), none, [33], [], []⟩])
       (.ret))
      (.skip)))
    (.seq (.reg [⟨(some 35), .load (some 6) (.t 3), none, [], [], []⟩,
      ⟨(some 36), .mv (.t 1), none, [1], [], []⟩,
      ⟨(some 37), .build [.int .i64 0, .int .i64 0] [(0, 1, .c (.int .i64 1)), (1, 1, .t 36)], none, [36], [], []⟩,
      ⟨(some 38), .fld (.t 3) 1, none, [3], [], []⟩,
      ⟨(some 39), .load none (.t 38), none, [38], [], []⟩,
      ⟨(some 40), .callp 19 [.t 35, .t 37, .t 39], none, [35, 37, 39], [], []⟩,
      ⟨(some 34), .mv (.t 40), none, [40], [], []⟩,
      ⟨(some 41), .ext (.t 34) 0, none, [], [], []⟩,
      ⟨(some 42), .ext (.t 34) 1, none, [34], [], []⟩,
      ⟨(some 8), .new 24 [.int .i64 0, .int .i64 0, .int .i64 0, .int .i64 0, .int .i64 0, .int .i64 0], none, [], [], []⟩,
      ⟨none, .store 6 (.t 8) (.t 41), none, [41], [], []⟩,
      ⟨(some 9), .mv (.t 42), none, [42], [], []⟩])
     (.seq (.seq (.reg [⟨(some 43), .mv (.t 9), none, [9], [], []⟩,
        ⟨(some 44), .bin .neq (.t 43) (.c (.int .i64 0)), none, [43], [], []⟩,
        ⟨(some 45), .mv (.t 44), none, [44], [], []⟩,
        ⟨(some 46), .fld (.t 8) 0, (some (45, false)), [], [], []⟩,
        ⟨(some 47), .load none (.t 46), (some (45, false)), [46], [], []⟩,
        ⟨(some 48), .bin .neq (.t 47) (.c (.int .i64 4)), (some (45, false)), [47], [], []⟩,
        ⟨(some 49), .pick (.t 45) (.c (.bool true)) (.t 48), none, [45, 48], [], []⟩])
       (.cond (.t 49) (.seq (.reg [⟨(some 6), .mv (.c (.bool false)), none, [], [], []⟩])
         (.ret))
        (.skip)))
      (.seq (.seq (.reg [⟨(some 10), .mv (.c (.int .i64 0)), none, [], [], []⟩])
        (.block 0 (.loop (.seq (.seq (.reg [⟨(some 50), .mv (.t 10), none, [], [], []⟩,
             ⟨(some 51), .mv (.t 2), none, [], [], []⟩,
             ⟨(some 52), .len false (.t 51), none, [51], [], []⟩,
             ⟨(some 53), .bin .lss (.t 50) (.t 52), none, [50, 52], [], []⟩])
            (.cond (.t 53) (.skip)
             (.exit 0)))
           (.seq (.block 1 (.seq (.regW 17 [⟨(some 57), .load (some 6) (.t 8), none, [], [], [11, 58, 59, 60, 61, 62, 63, 64, 65, 66, 67]⟩,
               ⟨(some 58), .mv (.t 2), none, [], [], [11, 57, 59, 63, 64, 65, 66, 67]⟩,
               ⟨(some 59), .mv (.t 10), none, [], [], [11, 57, 58, 63, 64, 65, 66, 67]⟩,
               ⟨(some 60), .idxS (.t 58) (.t 59) 3, none, [], [1, 2], [11, 57, 63, 64, 65, 66, 67]⟩,
               ⟨(some 61), .fld (.t 60) 0, none, [], [1, 2, 3], [11, 57, 63, 64, 65, 66, 67]⟩,
               ⟨(some 62), .load (some 2) (.t 61), none, [], [1, 2, 3, 4], [11, 57, 63, 64, 65, 66, 67]⟩,
               ⟨(some 63), .mv (.t 2), none, [], [], [11, 57, 58, 59, 60, 61, 62, 64]⟩,
               ⟨(some 64), .mv (.t 10), none, [], [], [11, 57, 58, 59, 60, 61, 62, 63]⟩,
               ⟨(some 65), .idxS (.t 63) (.t 64) 3, none, [], [6, 7], [11, 57, 58, 59, 60, 61, 62]⟩,
               ⟨(some 66), .fld (.t 65) 2, none, [], [6, 7, 8], [11, 57, 58, 59, 60, 61, 62]⟩,
               ⟨(some 67), .load none (.t 66), none, [], [6, 7, 8, 9], [11, 57, 58, 59, 60, 61, 62]⟩,
               ⟨(some 68), .callp 19 [.t 57, .t 62, .t 67], none, [], [0, 1, 2, 3, 4, 5, 6, 7, 8, 9, 10], [11]⟩,
               ⟨(some 56), .mv (.t 68), none, [], [0, 1, 2, 3, 4, 5, 6, 7, 8, 9, 10, 11], [11]⟩,
               ⟨(some 69), .ext (.t 56) 0, none, [], [0, 1, 2, 3, 4, 5, 6, 7, 8, 9, 10, 11, 12], [11, 70]⟩,
               ⟨(some 70), .ext (.t 56) 1, none, [], [0, 1, 2, 3, 4, 5, 6, 7, 8, 9, 10, 11, 12], [11, 69]⟩,
               ⟨(some 11), .new 24 [.int .i64 0, .int .i64 0, .int .i64 0, .int .i64 0, .int .i64 0, .int .i64 0], none, [], [], [56, 57, 58, 59, 60, 61, 62, 63, 64, 65, 66, 67, 68, 69, 70]⟩,
               ⟨none, .store 6 (.t 11) (.t 69), none, [56, 57, 58, 59, 60, 61, 62, 63, 64, 65, 66, 67, 68, 69], [0, 1, 2, 3, 4, 5, 6, 7, 8, 9, 10, 11, 12, 13, 15], [70]⟩,
               ⟨(some 12), .mv (.t 70), none, [70], [0, 1, 2, 3, 4, 5, 6, 7, 8, 9, 10, 11, 12, 13, 14, 15, 16], []⟩])
              (.seq (.regW 12 [⟨(some 72), .load (some 6) (.t 8), none, [], [], [13, 73, 74, 75, 76, 77]⟩,
                ⟨(some 73), .mv (.t 2), none, [], [], [13, 72, 74]⟩,
                ⟨(some 74), .mv (.t 10), none, [], [], [13, 72, 73]⟩,
                ⟨(some 75), .idxS (.t 73) (.t 74) 3, none, [], [1, 2], [13, 72]⟩,
                ⟨(some 76), .fld (.t 75) 2, none, [], [1, 2, 3], [13, 72]⟩,
                ⟨(some 77), .load none (.t 76), none, [], [1, 2, 3, 4], [13, 72]⟩,
                ⟨(some 78), .callp 10 [.t 72, .t 77], none, [], [0, 1, 2, 3, 4, 5], [13]⟩,
                ⟨(some 71), .mv (.t 78), none, [], [0, 1, 2, 3, 4, 5, 6], [13]⟩,
                ⟨(some 79), .ext (.t 71) 0, none, [], [0, 1, 2, 3, 4, 5, 6, 7], [13, 80]⟩,
                ⟨(some 80), .ext (.t 71) 1, none, [], [0, 1, 2, 3, 4, 5, 6, 7], [13, 79]⟩,
                ⟨(some 13), .new 24 [.int .i64 0, .int .i64 0, .int .i64 0, .int .i64 0, .int .i64 0, .int .i64 0], none, [], [], [71, 72, 73, 74, 75, 76, 77, 78, 79, 80]⟩,
                ⟨none, .store 6 (.t 13) (.t 79), none, [13, 71, 72, 73, 74, 75, 76, 77, 78, 79], [0, 1, 2, 3, 4, 5, 6, 7, 8, 10], [80]⟩,
                ⟨(some 14), .mv (.t 80), none, [80], [0, 1, 2, 3, 4, 5, 6, 7, 8, 9, 10, 11], []⟩])
               (.seq (.reg [⟨(some 81), .mv (.t 14), none, [14], [], []⟩,
                 ⟨(some 82), .bin .eql (.t 81) (.c (.int .i64 0)), none, [81], [], []⟩,
                 ⟨(some 83), .mv (.t 82), none, [82], [], []⟩,
                 ⟨(some 84), .mv (.t 12), (some (83, false)), [12], [], []⟩,
                 ⟨(some 85), .bin .eql (.t 84) (.c (.int .i64 0)), (some (83, false)), [84], [], []⟩,
                 ⟨(some 86), .mv (.t 85), (some (83, false)), [85], [], []⟩,
                 ⟨(some 87), .load (some 6) (.t 11), (some (86, true)), [11], [], []⟩,
                 ⟨(some 88), .load (some 6) (.t 8), (some (86, true)), [], [], []⟩,
                 ⟨(some 89), .eqv true [.i .i64, .i .i64, .i .i64, .i .i64, .i .i64, .i .i64] (.t 87) (.t 88), (some (86, true)), [87, 88], [], []⟩,
                 ⟨(some 90), .pick (.t 86) (.t 89) (.c (.bool false)), (some (83, false)), [86, 89], [], []⟩,
                 ⟨(some 91), .pick (.t 83) (.c (.bool true)) (.t 90), none, [83, 90], [], []⟩])
                (.cond (.t 91) (.seq (.reg [⟨(some 6), .mv (.c (.bool false)), none, [], [], []⟩])
                  (.ret))
                 (.skip))))))
            (.reg [⟨(some 54), .mv (.t 10), none, [10], [], []⟩,
             ⟨(some 55), .bin .add (.t 54) (.c (.int .i64 1)), none, [54], [], []⟩,
             ⟨(some 10), .mv (.t 55), none, [55], [], []⟩]))))))
       (.seq (.reg [⟨(some 92), .mv (.t 7), none, [7], [], []⟩,
         ⟨(some 6), .mv (.t 92), none, [92], [], []⟩])
        (.ret)))))))⟩
theorem chk6 : chkF Tryd.prog 6 sf6 = true := by kernel_rfl

/-- custody/custodylaw32.TamperGlitchesAreTolerated -/
def sf7 : SF := ⟨101, [.t 4],
 .seq (.reg [⟨(some 4), .mv (.c (.bool false)), none, [4], [], []⟩])
  (.seq (.reg [⟨(some 15), .callp 9 [], none, [], [], []⟩,
    ⟨(some 5), .mv (.t 15), none, [15], [], []⟩])
   (.seq (.seq (.reg [⟨(some 16), .mv (.t 5), none, [], [], []⟩,
      ⟨(some 17), .un .not (.t 16), none, [16], [], []⟩,
      ⟨(some 18), .mv (.t 17), none, [17], [], []⟩,
      ⟨(some 19), .mv (.t 1), (some (18, false)), [], [], []⟩,
      ⟨(some 20), .len false (.t 19), (some (18, false)), [19], [], []⟩,
      ⟨(some 21), .bin .gtr (.t 20) (.c (.int .i64 60)), (some (18, false)), [20], [], []⟩,
      ⟨(some 22), .pick (.t 18) (.c (.bool true)) (.t 21), none, [18, 21], [], []⟩])
     (.cond (.t 22) (.seq (.reg [⟨(some 23), .mv (.t 5), none, [5], [], []⟩,
        ⟨(some 4), .mv (.t 23), none, [23], [], []⟩])
       (.ret))
      (.skip)))
    (.seq (.reg [⟨(some 24), .mv (.t 0), none, [0], [], []⟩,
      ⟨(some 25), .conv .i64 (.t 24), none, [24], [], []⟩,
      ⟨(some 6), .mv (.t 25), none, [25], [], []⟩])
     (.seq (.reg [⟨(some 27), .mv (.t 6), none, [], [], []⟩,
       ⟨(some 28), .callp 22 [.t 27], none, [27], [], []⟩,
       ⟨(some 26), .mv (.t 28), none, [28], [], []⟩,
       ⟨(some 29), .ext (.t 26) 0, none, [], [], []⟩,
       ⟨(some 30), .ext (.t 26) 1, none, [26], [], []⟩,
       ⟨(some 7), .new 24 [.int .i64 0, .int .i64 0, .int .i64 0, .int .i64 0, .int .i64 0, .int .i64 0], none, [], [], []⟩,
       ⟨none, .store 6 (.t 7) (.t 29), none, [29], [], []⟩,
       ⟨(some 8), .mv (.t 30), none, [30], [], []⟩])
      (.seq (.seq (.reg [⟨(some 31), .mv (.t 8), none, [8], [], []⟩,
         ⟨(some 32), .bin .neq (.t 31) (.c (.int .i64 0)), none, [31], [], []⟩])
        (.cond (.t 32) (.seq (.reg [⟨(some 4), .mv (.c (.bool false)), none, [], [], []⟩])
          (.ret))
         (.skip)))
       (.seq (.seq (.reg [⟨(some 9), .mv (.c (.int .i64 0)), none, [], [], []⟩])
         (.block 0 (.loop (.seq (.seq (.reg [⟨(some 33), .mv (.t 9), none, [], [], []⟩,
              ⟨(some 34), .mv (.t 1), none, [], [], []⟩,
              ⟨(some 35), .len false (.t 34), none, [34], [], []⟩,
              ⟨(some 36), .bin .lss (.t 33) (.t 35), none, [33, 35], [], []⟩])
             (.cond (.t 36) (.skip)
              (.exit 0)))
            (.seq (.block 1 (.seq (.reg [⟨(some 39), .mv (.t 6), none, [6], [], []⟩,
                ⟨(some 40), .bin .add (.t 39) (.c (.int .i64 180)), none, [39], [], []⟩,
                ⟨(some 41), .mv (.t 1), none, [], [], []⟩,
                ⟨(some 42), .mv (.t 9), none, [], [], []⟩,
                ⟨(some 43), .idxS (.t 41) (.t 42) 1, none, [41, 42], [], []⟩,
                ⟨(some 44), .load none (.t 43), none, [43], [], []⟩,
                ⟨(some 45), .conv .i64 (.t 44), none, [44], [], []⟩,
                ⟨(some 46), .bin .quo (.t 45) (.c (.int .i64 4)), none, [45], [], []⟩,
                ⟨(some 47), .bin .add (.t 40) (.t 46), none, [40, 46], [], []⟩,
                ⟨(some 6), .mv (.t 47), none, [47], [], []⟩])
               (.seq (.reg [⟨(some 48), .bslice 3 1 3 [.int .i64 0, .int .i64 0, .int .i64 0] [(0, 1, .c (.int .i64 10)), (1, 1, .c (.int .i64 (-100))), (2, 1, .c (.int .i64 85))], none, [], [], []⟩,
                 ⟨(some 49), .mv (.t 1), none, [], [], []⟩,
                 ⟨(some 50), .mv (.t 9), none, [], [], []⟩,
                 ⟨(some 51), .idxS (.t 49) (.t 50) 1, none, [49, 50], [], []⟩,
                 ⟨(some 52), .load none (.t 51), none, [51], [], []⟩,
                 ⟨(some 53), .bin .rem (.t 52) (.c (.int .u16 3)), none, [52], [], []⟩,
                 ⟨(some 54), .idxS (.t 48) (.t 53) 1, none, [48, 53], [], []⟩,
                 ⟨(some 55), .load none (.t 54), none, [54], [], []⟩,
                 ⟨(some 10), .mv (.t 55), none, [55], [], []⟩])
                (.seq (.regW 17 [⟨(some 57), .load (some 6) (.t 7), none, [], [], [11, 58, 59, 60, 61, 62, 63, 64, 65, 66, 67]⟩,
                  ⟨(some 58), .mv (.t 1), none, [], [], [11, 57, 59, 65, 67]⟩,
                  ⟨(some 59), .mv (.t 9), none, [], [], [11, 57, 58, 65, 67]⟩,
                  ⟨(some 60), .idxS (.t 58) (.t 59) 1, none, [], [1, 2], [11, 57, 65, 67]⟩,
                  ⟨(some 61), .load none (.t 60), none, [], [1, 2, 3], [11, 57, 65, 67]⟩,
                  ⟨(some 62), .bin .rem (.t 61) (.c (.int .u16 3)), none, [], [1, 2, 3, 4], [11, 57, 65, 67]⟩,
                  ⟨(some 63), .conv .i64 (.t 62), none, [], [1, 2, 3, 4, 5], [11, 57, 65, 67]⟩,
                  ⟨(some 64), .bin .add (.c (.int .i64 2)) (.t 63), none, [], [1, 2, 3, 4, 5, 6], [11, 57, 65, 67]⟩,
                  ⟨(some 65), .mv (.t 10), none, [], [], [11, 57, 58, 59, 60, 61, 62, 63, 64, 67]⟩,
                  ⟨(some 66), .build [.int .i64 0, .int .i64 0] [(0, 1, .t 64), (1, 1, .t 65)], none, [], [1, 2, 3, 4, 5, 6, 7, 8], [11, 57, 67]⟩,
                  ⟨(some 67), .mv (.t 6), none, [], [], [11, 57, 58, 59, 60, 61, 62, 63, 64, 65, 66]⟩,
                  ⟨(some 68), .callp 19 [.t 57, .t 66, .t 67], none, [], [0, 1, 2, 3, 4, 5, 6, 7, 8, 9, 10], [11]⟩,
                  ⟨(some 56), .mv (.t 68), none, [], [0, 1, 2, 3, 4, 5, 6, 7, 8, 9, 10, 11], [11]⟩,
                  ⟨(some 69), .ext (.t 56) 0, none, [], [0, 1, 2, 3, 4, 5, 6, 7, 8, 9, 10, 11, 12], [11, 70]⟩,
                  ⟨(some 70), .ext (.t 56) 1, none, [], [0, 1, 2, 3, 4, 5, 6, 7, 8, 9, 10, 11, 12], [11, 69]⟩,
                  ⟨(some 11), .new 24 [.int .i64 0, .int .i64 0, .int .i64 0, .int .i64 0, .int .i64 0, .int .i64 0], none, [], [], [56, 57, 58, 59, 60, 61, 62, 63, 64, 65, 66, 67, 68, 69, 70]⟩,
                  ⟨none, .store 6 (.t 11) (.t 69), none, [10, 56, 57, 58, 59, 60, 61, 62, 63, 64, 65, 66, 67, 68, 69], [0, 1, 2, 3, 4, 5, 6, 7, 8, 9, 10, 11, 12, 13, 15], [70]⟩,
                  ⟨(some 12), .mv (.t 70), none, [70], [0, 1, 2, 3, 4, 5, 6, 7, 8, 9, 10, 11, 12, 13, 14, 15, 16], []⟩])
                 (.seq (.seq (.reg [⟨(some 71), .mv (.t 12), none, [12], [], []⟩,
                    ⟨(some 72), .bin .neq (.t 71) (.c (.int .i64 0)), none, [71], [], []⟩,
                    ⟨(some 73), .mv (.t 72), none, [72], [], []⟩,
                    ⟨(some 74), .fld (.t 11) 0, (some (73, false)), [], [], []⟩,
                    ⟨(some 75), .load none (.t 74), (some (73, false)), [74], [], []⟩,
                    ⟨(some 76), .bin .neq (.t 75) (.c (.int .i64 2)), (some (73, false)), [75], [], []⟩,
                    ⟨(some 77), .pick (.t 73) (.c (.bool true)) (.t 76), none, [73, 76], [], []⟩])
                   (.cond (.t 77) (.seq (.reg [⟨(some 4), .mv (.c (.bool false)), none, [], [], []⟩])
                     (.ret))
                    (.skip)))
                  (.reg [⟨(some 78), .load (some 6) (.t 11), none, [11], [], []⟩,
                   ⟨none, .store 6 (.t 7) (.t 78), none, [78], [], []⟩]))))))
             (.reg [⟨(some 37), .mv (.t 9), none, [9], [], []⟩,
              ⟨(some 38), .bin .add (.t 37) (.c (.int .i64 1)), none, [37], [], []⟩,
              ⟨(some 9), .mv (.t 38), none, [38], [], []⟩]))))))
        (.seq (.reg [⟨(some 80), .load (some 6) (.t 7), none, [7], [], []⟩,
          ⟨(some 81), .mv (.t 6), none, [6], [], []⟩,
          ⟨(some 82), .bin .add (.t 81) (.c (.int .i64 240)), none, [81], [], []⟩,
          ⟨(some 83), .callp 20 [.t 80, .t 82], none, [80, 82], [], []⟩,
          ⟨(some 79), .mv (.t 83), none, [83], [], []⟩,
          ⟨(some 84), .ext (.t 79) 0, none, [], [], []⟩,
          ⟨(some 85), .ext (.t 79) 1, none, [79], [], []⟩,
          ⟨(some 13), .new 24 [.int .i64 0, .int .i64 0, .int .i64 0, .int .i64 0, .int .i64 0, .int .i64 0], none, [], [], []⟩,
          ⟨none, .store 6 (.t 13) (.t 84), none, [84], [], []⟩,
          ⟨(some 14), .mv (.t 85), none, [85], [], []⟩])
         (.seq (.reg [⟨(some 86), .mv (.t 5), none, [5], [], []⟩,
           ⟨(some 87), .mv (.t 86), none, [86], [], []⟩,
           ⟨(some 88), .mv (.t 14), (some (87, true)), [14], [], []⟩,
           ⟨(some 89), .bin .eql (.t 88) (.c (.int .i64 0)), (some (87, true)), [88], [], []⟩,
           ⟨(some 90), .pick (.t 87) (.t 89) (.c (.bool false)), none, [87, 89], [], []⟩,
           ⟨(some 91), .mv (.t 90), none, [90], [], []⟩,
           ⟨(some 92), .fld (.t 13) 0, (some (91, true)), [], [], []⟩,
           ⟨(some 93), .load none (.t 92), (some (91, true)), [92], [], []⟩,
           ⟨(some 94), .bin .eql (.t 93) (.c (.int .i64 1)), (some (91, true)), [93], [], []⟩,
           ⟨(some 95), .pick (.t 91) (.t 94) (.c (.bool false)), none, [91, 94], [], []⟩,
           ⟨(some 96), .mv (.t 95), none, [95], [], []⟩,
           ⟨(some 97), .load (some 6) (.t 13), (some (96, true)), [13], [], []⟩,
           ⟨(some 98), .callp 21 [.t 97], (some (96, true)), [97], [], []⟩,
           ⟨(some 99), .bin .eql (.t 98) (.c (.int .i64 0)), (some (96, true)), [98], [], []⟩,
           ⟨(some 100), .pick (.t 96) (.t 99) (.c (.bool false)), none, [96, 99], [], []⟩,
           ⟨(some 4), .mv (.t 100), none, [100], [], []⟩])
          (.ret)))))))))⟩
theorem chk7 : chkF Tryd.prog 7 sf7 = true := by kernel_rfl

/-- custody/custodylaw32.TamperModesAreOrdered -/
def sf8 : SF := ⟨54, [.t 4],
 .seq (.reg [⟨(some 4), .mv (.c (.bool false)), none, [4], [], []⟩])
  (.seq (.reg [⟨(some 9), .callp 9 [], none, [], [], []⟩,
    ⟨(some 5), .mv (.t 9), none, [9], [], []⟩])
   (.seq (.reg [⟨(some 10), .mv (.t 0), none, [0], [], []⟩,
     ⟨(some 11), .conv .i64 (.t 10), none, [10], [], []⟩,
     ⟨(some 12), .bin .rem (.t 11) (.c (.int .i64 4)), none, [11], [], []⟩,
     ⟨(some 13), .bin .add (.c (.int .i64 1)) (.t 12), none, [12], [], []⟩,
     ⟨(some 6), .mv (.t 13), none, [13], [], []⟩])
    (.seq (.reg [⟨(some 14), .mv (.t 6), none, [], [], []⟩,
      ⟨(some 15), .mv (.t 1), none, [], [], []⟩,
      ⟨(some 16), .callp 16 [.t 14, .t 15], none, [14, 15], [], []⟩,
      ⟨(some 7), .mv (.t 16), none, [16], [], []⟩])
     (.seq (.reg [⟨(some 17), .mv (.t 6), none, [], [], []⟩,
       ⟨(some 18), .bin .add (.t 17) (.c (.int .i64 1)), none, [17], [], []⟩,
       ⟨(some 19), .mv (.t 1), none, [], [], []⟩,
       ⟨(some 20), .callp 16 [.t 18, .t 19], none, [18, 19], [], []⟩,
       ⟨(some 8), .mv (.t 20), none, [20], [], []⟩])
      (.seq (.seq (.reg [⟨(some 21), .mv (.t 1), none, [], [], []⟩,
         ⟨(some 22), .bin .lss (.t 21) (.c (.int .i64 1)), none, [21], [], []⟩,
         ⟨(some 23), .mv (.t 22), none, [22], [], []⟩,
         ⟨(some 24), .mv (.t 1), (some (23, false)), [1], [], []⟩,
         ⟨(some 25), .bin .gtr (.t 24) (.c (.int .i64 27)), (some (23, false)), [24], [], []⟩,
         ⟨(some 26), .pick (.t 23) (.c (.bool true)) (.t 25), none, [23, 25], [], []⟩])
        (.cond (.t 26) (.seq (.reg [⟨(some 27), .mv (.t 5), none, [5], [], []⟩,
           ⟨(some 28), .mv (.t 27), none, [27], [], []⟩,
           ⟨(some 29), .mv (.t 7), (some (28, true)), [7], [], []⟩,
           ⟨(some 30), .bin .eql (.t 29) (.c (.int .i64 1)), (some (28, true)), [29], [], []⟩,
           ⟨(some 31), .pick (.t 28) (.t 30) (.c (.bool false)), none, [28, 30], [], []⟩,
           ⟨(some 32), .mv (.t 31), none, [31], [], []⟩,
           ⟨(some 33), .mv (.t 8), (some (32, true)), [8], [], []⟩,
           ⟨(some 34), .bin .eql (.t 33) (.c (.int .i64 1)), (some (32, true)), [33], [], []⟩,
           ⟨(some 35), .pick (.t 32) (.t 34) (.c (.bool false)), none, [32, 34], [], []⟩,
           ⟨(some 4), .mv (.t 35), none, [35], [], []⟩])
          (.ret))
         (.skip)))
       (.seq (.reg [⟨(some 36), .mv (.t 5), none, [5], [], []⟩,
         ⟨(some 37), .mv (.t 36), none, [36], [], []⟩,
         ⟨(some 38), .mv (.t 8), (some (37, true)), [], [], []⟩,
         ⟨(some 39), .bin .neq (.t 38) (.c (.int .i64 0)), (some (37, true)), [38], [], []⟩,
         ⟨(some 40), .mv (.t 39), (some (37, true)), [39], [], []⟩,
         ⟨(some 41), .mv (.t 7), (some (40, false)), [7], [], []⟩,
         ⟨(some 42), .bin .eql (.t 41) (.c (.int .i64 0)), (some (40, false)), [41], [], []⟩,
         ⟨(some 43), .pick (.t 40) (.c (.bool true)) (.t 42), (some (37, true)), [40, 42], [], []⟩,
         ⟨(some 44), .pick (.t 37) (.t 43) (.c (.bool false)), none, [37, 43], [], []⟩,
         ⟨(some 45), .mv (.t 44), none, [44], [], []⟩,
         ⟨(some 46), .mv (.t 6), (some (45, true)), [6], [], []⟩,
         ⟨(some 47), .bin .add (.t 46) (.c (.int .i64 1)), (some (45, true)), [46], [], []⟩,
         ⟨(some 48), .bin .lss (.t 47) (.c (.int .i64 4)), (some (45, true)), [47], [], []⟩,
         ⟨(some 49), .mv (.t 48), (some (45, true)), [48], [], []⟩,
         ⟨(some 50), .mv (.t 8), (some (49, false)), [8], [], []⟩,
         ⟨(some 51), .bin .eql (.t 50) (.c (.int .i64 19)), (some (49, false)), [50], [], []⟩,
         ⟨(some 52), .pick (.t 49) (.c (.bool true)) (.t 51), (some (45, true)), [49, 51], [], []⟩,
         ⟨(some 53), .pick (.t 45) (.t 52) (.c (.bool false)), none, [45, 52], [], []⟩,
         ⟨(some 4), .mv (.t 53), none, [53], [], []⟩])
        (.ret)))))))⟩
theorem chk8 : chkF Tryd.prog 8 sf8 = true := by kernel_rfl

/-- custody/custodylaw32.sanity -/
def sf9 : SF := ⟨178, [.t 0],
 .seq (.reg [⟨(some 0), .mv (.c (.bool false)), none, [0], [], []⟩])
  (.seq (.reg [⟨(some 20), .callp 22 [.c (.int .i64 0)], none, [], [], []⟩,
    ⟨(some 19), .mv (.t 20), none, [20], [], []⟩,
    ⟨(some 21), .ext (.t 19) 0, none, [], [], []⟩,
    ⟨(some 22), .ext (.t 19) 1, none, [19], [], []⟩,
    ⟨(some 1), .new 24 [.int .i64 0, .int .i64 0, .int .i64 0, .int .i64 0, .int .i64 0, .int .i64 0], none, [], [], []⟩,
    ⟨none, .store 6 (.t 1) (.t 21), none, [21], [], []⟩,
    ⟨(some 2), .mv (.t 22), none, [22], [], []⟩])
   (.seq (.reg [⟨(some 24), .load (some 6) (.t 1), none, [], [], []⟩,
     ⟨(some 25), .build [.int .i64 0, .int .i64 0] [(0, 1, .c (.int .i64 2)), (1, 1, .c (.int .i64 10))], none, [], [], []⟩,
     ⟨(some 26), .callp 19 [.t 24, .t 25, .c (.int .i64 5)], none, [24, 25], [], []⟩,
     ⟨(some 23), .mv (.t 26), none, [26], [], []⟩,
     ⟨(some 27), .ext (.t 23) 0, none, [], [], []⟩,
     ⟨(some 28), .ext (.t 23) 1, none, [23], [], []⟩,
     ⟨(some 3), .new 24 [.int .i64 0, .int .i64 0, .int .i64 0, .int .i64 0, .int .i64 0, .int .i64 0], none, [], [], []⟩,
     ⟨none, .store 6 (.t 3) (.t 27), none, [27], [], []⟩,
     ⟨(some 4), .mv (.t 28), none, [28], [], []⟩])
    (.seq (.reg [⟨(some 30), .load (some 6) (.t 3), none, [], [], []⟩,
      ⟨(some 31), .build [.int .i64 0, .int .i64 0] [(0, 1, .c (.int .i64 2)), (1, 1, .c (.int .i64 10))], none, [], [], []⟩,
      ⟨(some 32), .callp 19 [.t 30, .t 31, .c (.int .i64 5)], none, [30, 31], [], []⟩,
      ⟨(some 29), .mv (.t 32), none, [32], [], []⟩,
      ⟨(some 33), .ext (.t 29) 0, none, [], [], []⟩,
      ⟨(some 34), .ext (.t 29) 1, none, [29], [], []⟩,
      ⟨(some 5), .new 24 [.int .i64 0, .int .i64 0, .int .i64 0, .int .i64 0, .int .i64 0, .int .i64 0], none, [], [], []⟩,
      ⟨none, .store 6 (.t 5) (.t 33), none, [33], [], []⟩,
      ⟨(some 6), .mv (.t 34), none, [34], [], []⟩])
     (.seq (.reg [⟨(some 36), .load (some 6) (.t 5), none, [], [], []⟩,
       ⟨(some 37), .callp 10 [.t 36, .c (.int .i64 359)], none, [36], [], []⟩,
       ⟨(some 35), .mv (.t 37), none, [37], [], []⟩,
       ⟨(some 38), .ext (.t 35) 0, none, [], [], []⟩,
       ⟨(some 39), .ext (.t 35) 1, none, [35], [], []⟩,
       ⟨(some 7), .new 24 [.int .i64 0, .int .i64 0, .int .i64 0, .int .i64 0, .int .i64 0, .int .i64 0], none, [], [], []⟩,
       ⟨none, .store 6 (.t 7) (.t 38), none, [7, 38], [], []⟩,
       ⟨(some 8), .mv (.t 39), none, [39], [], []⟩])
      (.seq (.reg [⟨(some 41), .load (some 6) (.t 5), none, [], [], []⟩,
        ⟨(some 42), .callp 10 [.t 41, .c (.int .i64 365)], none, [41], [], []⟩,
        ⟨(some 40), .mv (.t 42), none, [42], [], []⟩,
        ⟨(some 43), .ext (.t 40) 0, none, [], [], []⟩,
        ⟨(some 44), .ext (.t 40) 1, none, [40], [], []⟩,
        ⟨(some 9), .new 24 [.int .i64 0, .int .i64 0, .int .i64 0, .int .i64 0, .int .i64 0, .int .i64 0], none, [], [], []⟩,
        ⟨none, .store 6 (.t 9) (.t 43), none, [43], [], []⟩,
        ⟨(some 10), .mv (.t 44), none, [44], [], []⟩])
       (.seq (.reg [⟨(some 46), .load (some 6) (.t 3), none, [], [], []⟩,
         ⟨(some 47), .callp 20 [.t 46, .c (.int .i64 180)], none, [46], [], []⟩,
         ⟨(some 45), .mv (.t 47), none, [47], [], []⟩,
         ⟨(some 48), .ext (.t 45) 0, none, [], [], []⟩,
         ⟨(some 49), .ext (.t 45) 1, none, [45], [], []⟩,
         ⟨(some 11), .new 24 [.int .i64 0, .int .i64 0, .int .i64 0, .int .i64 0, .int .i64 0, .int .i64 0], none, [], [], []⟩,
         ⟨none, .store 6 (.t 11) (.t 48), none, [48], [], []⟩,
         ⟨(some 12), .mv (.t 49), none, [49], [], []⟩])
        (.seq (.reg [⟨(some 51), .load (some 6) (.t 1), none, [], [], []⟩,
          ⟨(some 52), .build [.int .i64 0, .int .i64 0] [(0, 1, .c (.int .i64 1)), (1, 1, .c (.int .i64 1))], none, [], [], []⟩,
          ⟨(some 53), .callp 19 [.t 51, .t 52, .c (.int .i64 0)], none, [51, 52], [], []⟩,
          ⟨(some 50), .mv (.t 53), none, [53], [], []⟩,
          ⟨(some 54), .ext (.t 50) 0, none, [], [], []⟩,
          ⟨(some 55), .ext (.t 50) 1, none, [50], [], []⟩,
          ⟨(some 13), .new 24 [.int .i64 0, .int .i64 0, .int .i64 0, .int .i64 0, .int .i64 0, .int .i64 0], none, [], [], []⟩,
          ⟨none, .store 6 (.t 13) (.t 54), none, [54], [], []⟩,
          ⟨(some 14), .mv (.t 55), none, [55], [], []⟩])
         (.seq (.reg [⟨(some 57), .load (some 6) (.t 1), none, [], [], []⟩,
           ⟨(some 58), .callp 12 [.t 57], none, [57], [], []⟩,
           ⟨(some 56), .mv (.t 58), none, [58], [], []⟩,
           ⟨(some 59), .ext (.t 56) 0, none, [], [], []⟩,
           ⟨(some 60), .ext (.t 56) 1, none, [56], [], []⟩,
           ⟨(some 15), .new 24 [.int .i64 0, .int .i64 0, .int .i64 0, .int .i64 0, .int .i64 0, .int .i64 0], none, [], [], []⟩,
           ⟨none, .store 6 (.t 15) (.t 59), none, [59], [], []⟩,
           ⟨(some 16), .mv (.t 60), none, [60], [], []⟩])
          (.seq (.reg [⟨(some 62), .load (some 6) (.t 1), none, [], [], []⟩,
            ⟨(some 63), .callp 14 [.t 62], none, [62], [], []⟩,
            ⟨(some 61), .mv (.t 63), none, [63], [], []⟩,
            ⟨(some 64), .ext (.t 61) 0, none, [], [], []⟩,
            ⟨(some 65), .ext (.t 61) 1, none, [61], [], []⟩,
            ⟨(some 17), .new 24 [.int .i64 0, .int .i64 0, .int .i64 0, .int .i64 0, .int .i64 0, .int .i64 0], none, [], [], []⟩,
            ⟨none, .store 6 (.t 17) (.t 64), none, [64], [], []⟩,
            ⟨(some 18), .mv (.t 65), none, [65], [], []⟩])
           (.seq (.seq (.reg [⟨(some 66), .mv (.t 2), none, [2], [], []⟩,
              ⟨(some 67), .bin .neq (.t 66) (.c (.int .i64 0)), none, [66], [], []⟩,
              ⟨(some 68), .mv (.t 67), none, [67], [], []⟩,
              ⟨(some 69), .mv (.t 4), (some (68, false)), [4], [], []⟩,
              ⟨(some 70), .bin .neq (.t 69) (.c (.int .i64 0)), (some (68, false)), [69], [], []⟩,
              ⟨(some 71), .pick (.t 68) (.c (.bool true)) (.t 70), none, [68, 70], [], []⟩,
              ⟨(some 72), .mv (.t 71), none, [71], [], []⟩,
              ⟨(some 73), .mv (.t 6), (some (72, false)), [6], [], []⟩,
              ⟨(some 74), .bin .neq (.t 73) (.c (.int .i64 0)), (some (72, false)), [73], [], []⟩,
              ⟨(some 75), .pick (.t 72) (.c (.bool true)) (.t 74), none, [72, 74], [], []⟩,
              ⟨(some 76), .mv (.t 75), none, [75], [], []⟩,
              ⟨(some 77), .mv (.t 8), (some (76, false)), [8], [], []⟩,
              ⟨(some 78), .bin .neq (.t 77) (.c (.int .i64 18)), (some (76, false)), [77], [], []⟩,
              ⟨(some 79), .pick (.t 76) (.c (.bool true)) (.t 78), none, [76, 78], [], []⟩,
              ⟨(some 80), .mv (.t 79), none, [79], [], []⟩,
              ⟨(some 81), .mv (.t 10), (some (80, false)), [10], [], []⟩,
              ⟨(some 82), .bin .neq (.t 81) (.c (.int .i64 0)), (some (80, false)), [81], [], []⟩,
              ⟨(some 83), .pick (.t 80) (.c (.bool true)) (.t 82), none, [80, 82], [], []⟩,
              ⟨(some 84), .mv (.t 83), none, [83], [], []⟩,
              ⟨(some 85), .mv (.t 12), (some (84, false)), [12], [], []⟩,
              ⟨(some 86), .bin .neq (.t 85) (.c (.int .i64 0)), (some (84, false)), [85], [], []⟩,
              ⟨(some 87), .pick (.t 84) (.c (.bool true)) (.t 86), none, [84, 86], [], []⟩,
              ⟨(some 88), .mv (.t 87), none, [87], [], []⟩,
              ⟨(some 89), .mv (.t 14), (some (88, false)), [14], [], []⟩,
              ⟨(some 90), .bin .neq (.t 89) (.c (.int .i64 0)), (some (88, false)), [89], [], []⟩,
              ⟨(some 91), .pick (.t 88) (.c (.bool true)) (.t 90), none, [88, 90], [], []⟩,
              ⟨(some 92), .mv (.t 91), none, [91], [], []⟩,
              ⟨(some 93), .mv (.t 16), (some (92, false)), [16], [], []⟩,
              ⟨(some 94), .bin .neq (.t 93) (.c (.int .i64 0)), (some (92, false)), [93], [], []⟩,
              ⟨(some 95), .pick (.t 92) (.c (.bool true)) (.t 94), none, [92, 94], [], []⟩,
              ⟨(some 96), .mv (.t 95), none, [95], [], []⟩,
              ⟨(some 97), .mv (.t 18), (some (96, false)), [18], [], []⟩,
              ⟨(some 98), .bin .neq (.t 97) (.c (.int .i64 0)), (some (96, false)), [97], [], []⟩,
              ⟨(some 99), .pick (.t 96) (.c (.bool true)) (.t 98), none, [96, 98], [], []⟩])
             (.cond (.t 99) (.seq (.reg [⟨(some 0), .mv (.c (.bool false)), none, [], [], []⟩])
               (.ret))
              (.skip)))
            (.seq (.reg [⟨(some 100), .fld (.t 1) 0, none, [], [], []⟩,
              ⟨(some 101), .load none (.t 100), none, [100], [], []⟩,
              ⟨(some 102), .bin .eql (.t 101) (.c (.int .i64 1)), none, [101], [], []⟩,
              ⟨(some 103), .mv (.t 102), none, [102], [], []⟩,
              ⟨(some 104), .fld (.t 3) 0, (some (103, true)), [], [], []⟩,
              ⟨(some 105), .load none (.t 104), (some (103, true)), [104], [], []⟩,
              ⟨(some 106), .bin .eql (.t 105) (.c (.int .i64 2)), (some (103, true)), [105], [], []⟩,
              ⟨(some 107), .pick (.t 103) (.t 106) (.c (.bool false)), none, [103, 106], [], []⟩,
              ⟨(some 108), .mv (.t 107), none, [107], [], []⟩,
              ⟨(some 109), .load (some 6) (.t 3), (some (108, true)), [3], [], []⟩,
              ⟨(some 110), .callp 21 [.t 109], (some (108, true)), [109], [], []⟩,
              ⟨(some 111), .bin .eql (.t 110) (.c (.int .i64 3)), (some (108, true)), [110], [], []⟩,
              ⟨(some 112), .pick (.t 108) (.t 111) (.c (.bool false)), none, [108, 111], [], []⟩,
              ⟨(some 113), .mv (.t 112), none, [112], [], []⟩,
              ⟨(some 114), .fld (.t 5) 0, (some (113, true)), [5], [], []⟩,
              ⟨(some 115), .load none (.t 114), (some (113, true)), [114], [], []⟩,
              ⟨(some 116), .bin .eql (.t 115) (.c (.int .i64 3)), (some (113, true)), [115], [], []⟩,
              ⟨(some 117), .pick (.t 113) (.t 116) (.c (.bool false)), none, [113, 116], [], []⟩,
              ⟨(some 118), .mv (.t 117), none, [117], [], []⟩,
              ⟨(some 119), .fld (.t 9) 0, (some (118, true)), [9], [], []⟩,
              ⟨(some 120), .load none (.t 119), (some (118, true)), [119], [], []⟩,
              ⟨(some 121), .bin .eql (.t 120) (.c (.int .i64 1)), (some (118, true)), [120], [], []⟩,
              ⟨(some 122), .pick (.t 118) (.t 121) (.c (.bool false)), none, [118, 121], [], []⟩,
              ⟨(some 123), .mv (.t 122), none, [122], [], []⟩,
              ⟨(some 124), .fld (.t 11) 0, (some (123, true)), [], [], []⟩,
              ⟨(some 125), .load none (.t 124), (some (123, true)), [124], [], []⟩,
              ⟨(some 126), .bin .eql (.t 125) (.c (.int .i64 1)), (some (123, true)), [125], [], []⟩,
              ⟨(some 127), .pick (.t 123) (.t 126) (.c (.bool false)), none, [123, 126], [], []⟩,
              ⟨(some 128), .mv (.t 127), none, [127], [], []⟩,
              ⟨(some 129), .fld (.t 11) 1, (some (128, true)), [11], [], []⟩,
              ⟨(some 130), .load none (.t 129), (some (128, true)), [129], [], []⟩,
              ⟨(some 131), .bin .eql (.t 130) (.c (.int .i64 180)), (some (128, true)), [130], [], []⟩,
              ⟨(some 132), .pick (.t 128) (.t 131) (.c (.bool false)), none, [128, 131], [], []⟩,
              ⟨(some 133), .mv (.t 132), none, [132], [], []⟩,
              ⟨(some 134), .fld (.t 13) 0, (some (133, true)), [13], [], []⟩,
              ⟨(some 135), .load none (.t 134), (some (133, true)), [134], [], []⟩,
              ⟨(some 136), .bin .eql (.t 135) (.c (.int .i64 4)), (some (133, true)), [135], [], []⟩,
              ⟨(some 137), .pick (.t 133) (.t 136) (.c (.bool false)), none, [133, 136], [], []⟩,
              ⟨(some 138), .mv (.t 137), none, [137], [], []⟩,
              ⟨(some 139), .fld (.t 15) 0, (some (138, true)), [15], [], []⟩,
              ⟨(some 140), .load none (.t 139), (some (138, true)), [139], [], []⟩,
              ⟨(some 141), .bin .eql (.t 140) (.c (.int .i64 4)), (some (138, true)), [140], [], []⟩,
              ⟨(some 142), .pick (.t 138) (.t 141) (.c (.bool false)), none, [138, 141], [], []⟩,
              ⟨(some 143), .mv (.t 142), none, [142], [], []⟩,
              ⟨(some 144), .fld (.t 17) 0, (some (143, true)), [17], [], []⟩,
              ⟨(some 145), .load none (.t 144), (some (143, true)), [144], [], []⟩,
              ⟨(some 146), .bin .eql (.t 145) (.c (.int .i64 5)), (some (143, true)), [145], [], []⟩,
              ⟨(some 147), .pick (.t 143) (.t 146) (.c (.bool false)), none, [143, 146], [], []⟩,
              ⟨(some 148), .mv (.t 147), none, [147], [], []⟩,
              ⟨(some 149), .load (some 6) (.t 1), (some (148, true)), [1], [], []⟩,
              ⟨(some 150), .callp 18 [.t 149], (some (148, true)), [149], [], []⟩,
              ⟨(some 151), .pick (.t 148) (.t 150) (.c (.bool false)), none, [148, 150], [], []⟩,
              ⟨(some 152), .mv (.t 151), none, [151], [], []⟩,
              ⟨(some 153), .build [.int .i64 0, .int .i64 0, .int .i64 0, .int .i64 0, .int .i64 0, .int .i64 0] [], (some (152, true)), [], [], []⟩,
              ⟨(some 154), .callp 18 [.t 153], (some (152, true)), [153], [], []⟩,
              ⟨(some 155), .un .not (.t 154), (some (152, true)), [154], [], []⟩,
              ⟨(some 156), .pick (.t 152) (.t 155) (.c (.bool false)), none, [152, 155], [], []⟩,
              ⟨(some 157), .mv (.t 156), none, [156], [], []⟩,
              ⟨(some 158), .build [.int .i64 0, .int .i64 0] [(0, 1, .c (.int .i64 4)), (1, 1, .c (.int .i64 85))], (some (157, true)), [], [], []⟩,
              ⟨(some 159), .callp 23 [.t 158], (some (157, true)), [158], [], []⟩,
              ⟨(some 160), .pick (.t 157) (.t 159) (.c (.bool false)), none, [157, 159], [], []⟩,
              ⟨(some 161), .mv (.t 160), none, [160], [], []⟩,
              ⟨(some 162), .build [.int .i64 0, .int .i64 0] [(0, 1, .c (.int .i64 4)), (1, 1, .c (.int .i64 84))], (some (161, true)), [], [], []⟩,
              ⟨(some 163), .callp 23 [.t 162], (some (161, true)), [162], [], []⟩,
              ⟨(some 164), .un .not (.t 163), (some (161, true)), [163], [], []⟩,
              ⟨(some 165), .pick (.t 161) (.t 164) (.c (.bool false)), none, [161, 164], [], []⟩,
              ⟨(some 166), .mv (.t 165), none, [165], [], []⟩,
              ⟨(some 167), .callp 16 [.c (.int .i64 2), .c (.int .i64 3)], (some (166, true)), [], [], []⟩,
              ⟨(some 168), .bin .eql (.t 167) (.c (.int .i64 18)), (some (166, true)), [167], [], []⟩,
              ⟨(some 169), .pick (.t 166) (.t 168) (.c (.bool false)), none, [166, 168], [], []⟩,
              ⟨(some 170), .mv (.t 169), none, [169], [], []⟩,
              ⟨(some 171), .callp 16 [.c (.int .i64 3), .c (.int .i64 26)], (some (170, true)), [], [], []⟩,
              ⟨(some 172), .bin .eql (.t 171) (.c (.int .i64 0)), (some (170, true)), [171], [], []⟩,
              ⟨(some 173), .pick (.t 170) (.t 172) (.c (.bool false)), none, [170, 172], [], []⟩,
              ⟨(some 174), .mv (.t 173), none, [173], [], []⟩,
              ⟨(some 175), .callp 16 [.c (.int .i64 4), .c (.int .i64 26)], (some (174, true)), [], [], []⟩,
              ⟨(some 176), .bin .eql (.t 175) (.c (.int .i64 19)), (some (174, true)), [175], [], []⟩,
              ⟨(some 177), .pick (.t 174) (.t 176) (.c (.bool false)), none, [174, 176], [], []⟩,
              ⟨(some 0), .mv (.t 177), none, [177], [], []⟩])
             (.ret))))))))))))⟩
theorem chk9 : chkF Tryd.prog 9 sf9 = true := by kernel_rfl

/-- custody/tamper.Unlock -/
def sf10 : SF := ⟨36, [.c 4 (some 6), .t 5],
 .seq (.reg [⟨(some 2), .box 24 (.t 0), none, [0], [], []⟩,
   ⟨(some 4), .new 24 [.int .i64 0, .int .i64 0, .int .i64 0, .int .i64 0, .int .i64 0, .int .i64 0], none, [], [], []⟩,
   ⟨(some 5), .mv (.c (.int .i64 0)), none, [5], [], []⟩])
  (.seq (.reg [⟨(some 9), .load (some 6) (.t 2), none, [2], [], []⟩,
    ⟨(some 10), .mv (.t 1), none, [1], [], []⟩,
    ⟨(some 11), .callp 20 [.t 9, .t 10], none, [9, 10], [], []⟩,
    ⟨(some 8), .mv (.t 11), none, [11], [], []⟩,
    ⟨(some 12), .ext (.t 8) 0, none, [], [], []⟩,
    ⟨(some 13), .ext (.t 8) 1, none, [8], [], []⟩,
    ⟨(some 6), .new 24 [.int .i64 0, .int .i64 0, .int .i64 0, .int .i64 0, .int .i64 0, .int .i64 0], none, [], [], []⟩,
    ⟨none, .store 6 (.t 6) (.t 12), none, [12], [], []⟩,
    ⟨(some 7), .mv (.t 13), none, [13], [], []⟩])
   (.seq (.block 0 (.seq (.reg [⟨(some 15), .mv (.t 7), none, [], [], []⟩,
       ⟨(some 16), .bin .neq (.t 15) (.c (.int .i64 0)), none, [15], [], []⟩,
       ⟨(some 14), .mv (.t 16), none, [16], [], []⟩])
      (.cond (.t 14) (.seq (.reg [⟨(some 17), .build [.int .i64 0, .int .i64 0, .int .i64 0, .int .i64 0, .int .i64 0, .int .i64 0] [], none, [], [], []⟩,
         ⟨(some 18), .mv (.t 7), none, [7], [], []⟩,
         ⟨none, .store 6 (.t 4) (.t 17), none, [17], [], []⟩,
         ⟨(some 5), .mv (.t 18), none, [18], [], []⟩])
        (.ret))
       (.seq (.reg [⟨(some 20), .fld (.t 6) 0, none, [], [], []⟩,
         ⟨(some 21), .load none (.t 20), none, [20], [], []⟩,
         ⟨(some 22), .bin .geq (.t 21) (.c (.int .i64 4)), none, [21], [], []⟩,
         ⟨(some 19), .mv (.t 22), none, [22], [], []⟩])
        (.cond (.t 19) (.seq (.reg [⟨(some 23), .build [.int .i64 0, .int .i64 0, .int .i64 0, .int .i64 0, .int .i64 0, .int .i64 0] [], none, [], [], []⟩,
           ⟨none, .store 6 (.t 4) (.t 23), none, [23], [], []⟩,
           ⟨(some 5), .mv (.c (.int .i64 19)), none, [], [], []⟩])
          (.ret))
         (.seq (.reg [⟨(some 25), .fld (.t 6) 0, none, [], [], []⟩,
           ⟨(some 26), .load none (.t 25), none, [25], [], []⟩,
           ⟨(some 27), .bin .neq (.t 26) (.c (.int .i64 3)), none, [26], [], []⟩,
           ⟨(some 24), .mv (.t 27), none, [27], [], []⟩])
          (.cond (.t 24) (.seq (.reg [⟨(some 28), .build [.int .i64 0, .int .i64 0, .int .i64 0, .int .i64 0, .int .i64 0, .int .i64 0] [], none, [], [], []⟩,
             ⟨none, .store 6 (.t 4) (.t 28), none, [28], [], []⟩,
             ⟨(some 5), .mv (.c (.int .i64 11)), none, [], [], []⟩])
            (.ret))
           (.seq (.reg [⟨(some 30), .load (some 6) (.t 6), none, [], [], []⟩,
             ⟨(some 31), .callp 21 [.t 30], none, [30], [], []⟩,
             ⟨(some 32), .bin .neq (.t 31) (.c (.int .i64 0)), none, [31], [], []⟩,
             ⟨(some 29), .mv (.t 32), none, [32], [], []⟩])
            (.cond (.t 29) (.seq (.reg [⟨(some 33), .build [.int .i64 0, .int .i64 0, .int .i64 0, .int .i64 0, .int .i64 0, .int .i64 0] [], none, [], [], []⟩,
               ⟨none, .store 6 (.t 4) (.t 33), none, [33], [], []⟩,
               ⟨(some 5), .mv (.c (.int .i64 18)), none, [], [], []⟩])
              (.ret))
             (.skip))))))))))
    (.seq (.reg [⟨(some 34), .fld (.t 6) 0, none, [], [], []⟩,
      ⟨none, .store 1 (.t 34) (.c (.int .i64 1)), none, [34], [], []⟩])
     (.seq (.reg [⟨(some 35), .load (some 6) (.t 6), none, [6], [], []⟩,
       ⟨none, .store 6 (.t 4) (.t 35), none, [35], [], []⟩,
       ⟨(some 5), .mv (.c (.int .i64 0)), none, [], [], []⟩])
      (.ret)))))⟩
theorem chk10 : chkF Tryd.prog 10 sf10 = true := by kernel_rfl

/-- custody/custodyref32.Unlock -/
def sf11 : SF := ⟨30, [.c 4 (some 6), .t 5],
 .seq (.reg [⟨(some 2), .box 24 (.t 0), none, [0], [], []⟩,
   ⟨(some 4), .new 24 [.int .i64 0, .int .i64 0, .int .i64 0, .int .i64 0, .int .i64 0, .int .i64 0], none, [], [], []⟩,
   ⟨(some 5), .mv (.c (.int .i64 0)), none, [5], [], []⟩])
  (.seq (.reg [⟨(some 7), .load (some 6) (.t 2), none, [], [], []⟩,
    ⟨(some 8), .mv (.t 1), none, [], [], []⟩,
    ⟨(some 9), .callp 24 [.t 7, .t 8], none, [7, 8], [], []⟩,
    ⟨(some 6), .mv (.t 9), none, [9], [], []⟩])
   (.seq (.seq (.reg [⟨(some 10), .mv (.t 6), none, [], [], []⟩,
      ⟨(some 11), .bin .neq (.t 10) (.c (.int .i64 0)), none, [10], [], []⟩])
     (.cond (.t 11) (.seq (.reg [⟨(some 12), .build [.int .i64 0, .int .i64 0, .int .i64 0, .int .i64 0, .int .i64 0, .int .i64 0] [], none, [], [], []⟩,
        ⟨(some 13), .mv (.t 6), none, [6], [], []⟩,
        ⟨none, .store 6 (.t 4) (.t 12), none, [12], [], []⟩,
        ⟨(some 5), .mv (.t 13), none, [13], [], []⟩])
       (.ret))
      (.skip)))
    (.seq (.seq (.reg [⟨(some 14), .load (some 6) (.t 2), none, [], [], []⟩,
       ⟨(some 15), .callp 25 [.t 14], none, [14], [], []⟩])
      (.cond (.t 15) (.seq (.reg [⟨(some 16), .build [.int .i64 0, .int .i64 0, .int .i64 0, .int .i64 0, .int .i64 0, .int .i64 0] [], none, [], [], []⟩,
         ⟨none, .store 6 (.t 4) (.t 16), none, [16], [], []⟩,
         ⟨(some 5), .mv (.c (.int .i64 19)), none, [], [], []⟩])
        (.ret))
       (.skip)))
     (.seq (.reg [⟨(some 17), .load (some 6) (.t 2), none, [], [], []⟩,
       ⟨(some 18), .mv (.t 1), none, [1], [], []⟩,
       ⟨(some 19), .callp 26 [.t 17, .t 18], none, [17, 18], [], []⟩,
       ⟨none, .store 6 (.t 2) (.t 19), none, [19], [], []⟩])
      (.seq (.seq (.reg [⟨(some 20), .fld (.t 2) 0, none, [], [], []⟩,
         ⟨(some 21), .load none (.t 20), none, [20], [], []⟩,
         ⟨(some 22), .bin .neq (.t 21) (.c (.int .i64 3)), none, [21], [], []⟩])
        (.cond (.t 22) (.seq (.reg [⟨(some 23), .build [.int .i64 0, .int .i64 0, .int .i64 0, .int .i64 0, .int .i64 0, .int .i64 0] [], none, [], [], []⟩,
           ⟨none, .store 6 (.t 4) (.t 23), none, [23], [], []⟩,
           ⟨(some 5), .mv (.c (.int .i64 11)), none, [], [], []⟩])
          (.ret))
         (.skip)))
       (.seq (.seq (.reg [⟨(some 24), .load (some 6) (.t 2), none, [], [], []⟩,
          ⟨(some 25), .callp 27 [.t 24], none, [24], [], []⟩,
          ⟨(some 26), .bin .neq (.t 25) (.c (.int .i64 0)), none, [25], [], []⟩])
         (.cond (.t 26) (.seq (.reg [⟨(some 27), .build [.int .i64 0, .int .i64 0, .int .i64 0, .int .i64 0, .int .i64 0, .int .i64 0] [], none, [], [], []⟩,
            ⟨none, .store 6 (.t 4) (.t 27), none, [27], [], []⟩,
            ⟨(some 5), .mv (.c (.int .i64 18)), none, [], [], []⟩])
           (.ret))
          (.skip)))
        (.seq (.reg [⟨(some 28), .fld (.t 2) 0, none, [], [], []⟩,
          ⟨none, .store 1 (.t 28) (.c (.int .i64 1)), none, [28], [], []⟩])
         (.seq (.reg [⟨(some 29), .load (some 6) (.t 2), none, [2], [], []⟩,
           ⟨none, .store 6 (.t 4) (.t 29), none, [29], [], []⟩,
           ⟨(some 5), .mv (.c (.int .i64 0)), none, [], [], []⟩])
          (.ret)))))))))⟩
theorem chk11 : chkF Tryd.prog 11 sf11 = true := by kernel_rfl

/-- custody/tamper.Zeroize -/
def sf12 : SF := ⟨8, [.c 2 (some 6), .t 3],
 .seq (.reg [⟨(some 1), .box 24 (.t 0), none, [0], [], []⟩,
   ⟨(some 2), .new 24 [.int .i64 0, .int .i64 0, .int .i64 0, .int .i64 0, .int .i64 0, .int .i64 0], none, [], [], []⟩,
   ⟨(some 3), .mv (.c (.int .i64 0)), none, [3], [], []⟩])
  (.seq (.reg [⟨(some 4), .load (some 6) (.t 1), none, [1], [], []⟩,
    ⟨(some 5), .callp 28 [.t 4, .c (.int .i64 4)], none, [4], [], []⟩,
    ⟨(some 6), .ext (.t 5) 0, none, [], [], []⟩,
    ⟨(some 7), .ext (.t 5) 1, none, [5], [], []⟩,
    ⟨none, .store 6 (.t 2) (.t 6), none, [6], [], []⟩,
    ⟨(some 3), .mv (.t 7), none, [7], [], []⟩])
   (.ret))⟩
theorem chk12 : chkF Tryd.prog 12 sf12 = true := by kernel_rfl

/-- custody/custodyref32.Zeroize -/
def sf13 : SF := ⟨15, [.c 2 (some 6), .t 3],
 .seq (.reg [⟨(some 1), .box 24 (.t 0), none, [0], [], []⟩,
   ⟨(some 2), .new 24 [.int .i64 0, .int .i64 0, .int .i64 0, .int .i64 0, .int .i64 0, .int .i64 0], none, [], [], []⟩,
   ⟨(some 3), .mv (.c (.int .i64 0)), none, [3], [], []⟩])
  (.seq (.reg [⟨(some 5), .load (some 6) (.t 1), none, [], [], []⟩,
    ⟨(some 6), .callp 29 [.t 5], none, [5], [], []⟩,
    ⟨(some 4), .mv (.t 6), none, [6], [], []⟩])
   (.seq (.seq (.reg [⟨(some 7), .mv (.t 4), none, [4], [], []⟩,
      ⟨(some 8), .un .not (.t 7), none, [7], [], []⟩])
     (.cond (.t 8) (.seq (.reg [⟨(some 9), .build [.int .i64 0, .int .i64 0, .int .i64 0, .int .i64 0, .int .i64 0, .int .i64 0] [], none, [], [], []⟩,
        ⟨none, .store 6 (.t 2) (.t 9), none, [9], [], []⟩,
        ⟨(some 3), .mv (.c (.int .i64 1)), none, [], [], []⟩])
       (.ret))
      (.skip)))
    (.seq (.reg [⟨(some 10), .fld (.t 1) 0, none, [], [], []⟩,
      ⟨(some 11), .load none (.t 10), none, [10], [], []⟩,
      ⟨(some 12), .mx (.t 11) (.c (.int .i64 4)), none, [11], [], []⟩,
      ⟨(some 13), .fld (.t 1) 0, none, [], [], []⟩,
      ⟨none, .store 1 (.t 13) (.t 12), none, [12, 13], [], []⟩])
     (.seq (.reg [⟨(some 14), .load (some 6) (.t 1), none, [1], [], []⟩,
       ⟨none, .store 6 (.t 2) (.t 14), none, [14], [], []⟩,
       ⟨(some 3), .mv (.c (.int .i64 0)), none, [], [], []⟩])
      (.ret)))))⟩
theorem chk13 : chkF Tryd.prog 13 sf13 = true := by kernel_rfl

/-- custody/tamper.Decommission -/
def sf14 : SF := ⟨8, [.c 2 (some 6), .t 3],
 .seq (.reg [⟨(some 1), .box 24 (.t 0), none, [0], [], []⟩,
   ⟨(some 2), .new 24 [.int .i64 0, .int .i64 0, .int .i64 0, .int .i64 0, .int .i64 0, .int .i64 0], none, [], [], []⟩,
   ⟨(some 3), .mv (.c (.int .i64 0)), none, [3], [], []⟩])
  (.seq (.reg [⟨(some 4), .load (some 6) (.t 1), none, [1], [], []⟩,
    ⟨(some 5), .callp 28 [.t 4, .c (.int .i64 5)], none, [4], [], []⟩,
    ⟨(some 6), .ext (.t 5) 0, none, [], [], []⟩,
    ⟨(some 7), .ext (.t 5) 1, none, [5], [], []⟩,
    ⟨none, .store 6 (.t 2) (.t 6), none, [6], [], []⟩,
    ⟨(some 3), .mv (.t 7), none, [7], [], []⟩])
   (.ret))⟩
theorem chk14 : chkF Tryd.prog 14 sf14 = true := by kernel_rfl

/-- custody/custodyref32.Decommission -/
def sf15 : SF := ⟨12, [.c 2 (some 6), .t 3],
 .seq (.reg [⟨(some 1), .box 24 (.t 0), none, [0], [], []⟩,
   ⟨(some 2), .new 24 [.int .i64 0, .int .i64 0, .int .i64 0, .int .i64 0, .int .i64 0, .int .i64 0], none, [], [], []⟩,
   ⟨(some 3), .mv (.c (.int .i64 0)), none, [3], [], []⟩])
  (.seq (.reg [⟨(some 5), .load (some 6) (.t 1), none, [], [], []⟩,
    ⟨(some 6), .callp 29 [.t 5], none, [5], [], []⟩,
    ⟨(some 4), .mv (.t 6), none, [6], [], []⟩])
   (.seq (.seq (.reg [⟨(some 7), .mv (.t 4), none, [4], [], []⟩,
      ⟨(some 8), .un .not (.t 7), none, [7], [], []⟩])
     (.cond (.t 8) (.seq (.reg [⟨(some 9), .build [.int .i64 0, .int .i64 0, .int .i64 0, .int .i64 0, .int .i64 0, .int .i64 0] [], none, [], [], []⟩,
        ⟨none, .store 6 (.t 2) (.t 9), none, [9], [], []⟩,
        ⟨(some 3), .mv (.c (.int .i64 1)), none, [], [], []⟩])
       (.ret))
      (.skip)))
    (.seq (.reg [⟨(some 10), .fld (.t 1) 0, none, [], [], []⟩,
      ⟨none, .store 1 (.t 10) (.c (.int .i64 5)), none, [10], [], []⟩])
     (.seq (.reg [⟨(some 11), .load (some 6) (.t 1), none, [1], [], []⟩,
       ⟨none, .store 6 (.t 2) (.t 11), none, [11], [], []⟩,
       ⟨(some 3), .mv (.c (.int .i64 0)), none, [], [], []⟩])
      (.ret)))))⟩
theorem chk15 : chkF Tryd.prog 15 sf15 = true := by kernel_rfl

/-- custody/tamper.Permits -/
def sf16 : SF := ⟨43, [.t 4],
 .seq (.reg [⟨(some 4), .mv (.c (.int .i64 0)), none, [4], [], []⟩])
  (.seq (.reg [⟨(some 5), .mv (.c (.int .i64 0)), none, [], [], []⟩])
   (.seq (.seq (.reg [⟨(some 6), .mv (.t 1), none, [], [], []⟩,
      ⟨(some 7), .bin .geq (.t 6) (.c (.int .i64 1)), none, [6], [], []⟩,
      ⟨(some 8), .mv (.t 7), none, [7], [], []⟩,
      ⟨(some 9), .mv (.t 1), (some (8, true)), [], [], []⟩,
      ⟨(some 10), .bin .leq (.t 9) (.c (.int .i64 27)), (some (8, true)), [9], [], []⟩,
      ⟨(some 11), .pick (.t 8) (.t 10) (.c (.bool false)), none, [8, 10], [], []⟩])
     (.cond (.t 11) (.reg [⟨(some 12), .mv (.t 1), none, [1], [], []⟩,
       ⟨(some 13), .bin .shl (.c (.int .i64 1)) (.t 12), none, [12], [], []⟩,
       ⟨(some 5), .mv (.t 13), none, [13], [], []⟩])
      (.skip)))
    (.seq (.block 0 (.seq (.reg [⟨(some 15), .mv (.t 5), none, [], [], []⟩,
        ⟨(some 16), .bin .eql (.t 15) (.c (.int .i64 0)), none, [15], [], []⟩,
        ⟨(some 17), .mv (.t 16), none, [16], [], []⟩,
        ⟨(some 18), .mv (.t 0), (some (17, false)), [], [], []⟩,
        ⟨(some 19), .bin .lss (.t 18) (.c (.int .i64 1)), (some (17, false)), [18], [], []⟩,
        ⟨(some 20), .pick (.t 17) (.c (.bool true)) (.t 19), none, [17, 19], [], []⟩,
        ⟨(some 21), .mv (.t 20), none, [20], [], []⟩,
        ⟨(some 22), .mv (.t 0), (some (21, false)), [], [], []⟩,
        ⟨(some 23), .bin .gtr (.t 22) (.c (.int .i64 5)), (some (21, false)), [22], [], []⟩,
        ⟨(some 24), .pick (.t 21) (.c (.bool true)) (.t 23), none, [21, 23], [], []⟩,
        ⟨(some 14), .mv (.t 24), none, [24], [], []⟩])
       (.cond (.t 14) (.seq (.reg [⟨(some 4), .mv (.c (.int .i64 1)), none, [], [], []⟩])
         (.ret))
        (.seq (.reg [⟨(some 26), .mv (.t 0), none, [], [], []⟩,
          ⟨(some 27), .bin .geq (.t 26) (.c (.int .i64 4)), none, [26], [], []⟩,
          ⟨(some 25), .mv (.t 27), none, [27], [], []⟩])
         (.cond (.t 25) (.seq (.reg [⟨(some 4), .mv (.c (.int .i64 19)), none, [], [], []⟩])
           (.ret))
          (.seq (.seq (.reg [⟨(some 29), .mv (.t 0), none, [], [], []⟩,
             ⟨(some 30), .bin .eql (.t 29) (.c (.int .i64 2)), none, [29], [], []⟩,
             ⟨(some 31), .mv (.t 30), none, [30], [], []⟩,
             ⟨(some 32), .mv (.t 5), (some (31, true)), [], [], []⟩,
             ⟨(some 33), .bin .and (.c (.int .i64 2998284)) (.t 32), (some (31, true)), [32], [], []⟩,
             ⟨(some 34), .bin .neq (.t 33) (.c (.int .i64 0)), (some (31, true)), [33], [], []⟩,
             ⟨(some 35), .pick (.t 31) (.t 34) (.c (.bool false)), none, [31, 34], [], []⟩,
             ⟨(some 28), .mv (.t 35), none, [35], [], []⟩])
            (.cond (.t 28) (.skip)
             (.reg [⟨(some 36), .mv (.t 0), none, [0], [], []⟩,
              ⟨(some 37), .bin .eql (.t 36) (.c (.int .i64 3)), none, [36], [], []⟩,
              ⟨(some 38), .mv (.t 37), none, [37], [], []⟩,
              ⟨(some 39), .mv (.t 5), (some (38, true)), [5], [], []⟩,
              ⟨(some 40), .bin .and (.c (.int .i64 265289728)) (.t 39), (some (38, true)), [39], [], []⟩,
              ⟨(some 41), .bin .eql (.t 40) (.c (.int .i64 0)), (some (38, true)), [40], [], []⟩,
              ⟨(some 42), .pick (.t 38) (.t 41) (.c (.bool false)), none, [38, 41], [], []⟩,
              ⟨(some 28), .mv (.t 42), none, [42], [], []⟩])))
           (.cond (.t 28) (.seq (.reg [⟨(some 4), .mv (.c (.int .i64 18)), none, [], [], []⟩])
             (.ret))
            (.skip))))))))
     (.seq (.reg [⟨(some 4), .mv (.c (.int .i64 0)), none, [], [], []⟩])
      (.ret)))))⟩
theorem chk16 : chkF Tryd.prog 16 sf16 = true := by kernel_rfl

/-- custody/custodyref32.Permits -/
def sf17 : SF := ⟨72, [.t 4],
 .seq (.reg [⟨(some 4), .mv (.c (.int .i64 0)), none, [4], [], []⟩])
  (.seq (.seq (.reg [⟨(some 7), .mv (.t 0), none, [], [], []⟩,
     ⟨(some 8), .bin .lss (.t 7) (.c (.int .i64 1)), none, [7], [], []⟩,
     ⟨(some 9), .mv (.t 8), none, [8], [], []⟩,
     ⟨(some 10), .mv (.t 0), (some (9, false)), [], [], []⟩,
     ⟨(some 11), .bin .gtr (.t 10) (.c (.int .i64 5)), (some (9, false)), [10], [], []⟩,
     ⟨(some 12), .pick (.t 9) (.c (.bool true)) (.t 11), none, [9, 11], [], []⟩,
     ⟨(some 13), .mv (.t 12), none, [12], [], []⟩,
     ⟨(some 14), .mv (.t 1), (some (13, false)), [], [], []⟩,
     ⟨(some 15), .bin .lss (.t 14) (.c (.int .i64 1)), (some (13, false)), [14], [], []⟩,
     ⟨(some 16), .pick (.t 13) (.c (.bool true)) (.t 15), none, [13, 15], [], []⟩,
     ⟨(some 17), .mv (.t 16), none, [16], [], []⟩,
     ⟨(some 18), .mv (.t 1), (some (17, false)), [], [], []⟩,
     ⟨(some 19), .bin .gtr (.t 18) (.c (.int .i64 27)), (some (17, false)), [18], [], []⟩,
     ⟨(some 20), .pick (.t 17) (.c (.bool true)) (.t 19), none, [17, 19], [], []⟩])
    (.cond (.t 20) (.seq (.reg [⟨(some 4), .mv (.c (.int .i64 1)), none, [], [], []⟩])
      (.ret))
     (.skip)))
   (.seq (.seq (.reg [⟨(some 21), .mv (.t 0), none, [], [], []⟩,
      ⟨(some 22), .bin .geq (.t 21) (.c (.int .i64 4)), none, [21], [], []⟩])
     (.cond (.t 22) (.seq (.reg [⟨(some 4), .mv (.c (.int .i64 19)), none, [], [], []⟩])
       (.ret))
      (.skip)))
    (.seq (.reg [⟨(some 23), .mv (.t 1), none, [], [], []⟩,
      ⟨(some 24), .bin .eql (.t 23) (.c (.int .i64 2)), none, [23], [], []⟩,
      ⟨(some 25), .mv (.t 24), none, [24], [], []⟩,
      ⟨(some 26), .mv (.t 1), (some (25, false)), [], [], []⟩,
      ⟨(some 27), .bin .eql (.t 26) (.c (.int .i64 3)), (some (25, false)), [26], [], []⟩,
      ⟨(some 28), .pick (.t 25) (.c (.bool true)) (.t 27), none, [25, 27], [], []⟩,
      ⟨(some 29), .mv (.t 28), none, [28], [], []⟩,
      ⟨(some 30), .mv (.t 1), (some (29, false)), [], [], []⟩,
      ⟨(some 31), .bin .eql (.t 30) (.c (.int .i64 14)), (some (29, false)), [30], [], []⟩,
      ⟨(some 32), .pick (.t 29) (.c (.bool true)) (.t 31), none, [29, 31], [], []⟩,
      ⟨(some 33), .mv (.t 32), none, [32], [], []⟩,
      ⟨(some 34), .mv (.t 1), (some (33, false)), [], [], []⟩,
      ⟨(some 35), .bin .eql (.t 34) (.c (.int .i64 15)), (some (33, false)), [34], [], []⟩,
      ⟨(some 36), .pick (.t 33) (.c (.bool true)) (.t 35), none, [33, 35], [], []⟩,
      ⟨(some 37), .mv (.t 36), none, [36], [], []⟩,
      ⟨(some 38), .mv (.t 1), (some (37, false)), [], [], []⟩,
      ⟨(some 39), .bin .eql (.t 38) (.c (.int .i64 16)), (some (37, false)), [38], [], []⟩,
      ⟨(some 40), .pick (.t 37) (.c (.bool true)) (.t 39), none, [37, 39], [], []⟩,
      ⟨(some 41), .mv (.t 40), none, [40], [], []⟩,
      ⟨(some 42), .mv (.t 1), (some (41, false)), [], [], []⟩,
      ⟨(some 43), .bin .eql (.t 42) (.c (.int .i64 18)), (some (41, false)), [42], [], []⟩,
      ⟨(some 44), .pick (.t 41) (.c (.bool true)) (.t 43), none, [41, 43], [], []⟩,
      ⟨(some 45), .mv (.t 44), none, [44], [], []⟩,
      ⟨(some 46), .mv (.t 1), (some (45, false)), [], [], []⟩,
      ⟨(some 47), .bin .eql (.t 46) (.c (.int .i64 19)), (some (45, false)), [46], [], []⟩,
      ⟨(some 48), .pick (.t 45) (.c (.bool true)) (.t 47), none, [45, 47], [], []⟩,
      ⟨(some 49), .mv (.t 48), none, [48], [], []⟩,
      ⟨(some 50), .mv (.t 1), (some (49, false)), [], [], []⟩,
      ⟨(some 51), .bin .eql (.t 50) (.c (.int .i64 21)), (some (49, false)), [50], [], []⟩,
      ⟨(some 52), .pick (.t 49) (.c (.bool true)) (.t 51), none, [49, 51], [], []⟩,
      ⟨(some 5), .mv (.t 52), none, [52], [], []⟩])
     (.seq (.reg [⟨(some 53), .mv (.t 1), none, [], [], []⟩,
       ⟨(some 54), .bin .eql (.t 53) (.c (.int .i64 20)), none, [53], [], []⟩,
       ⟨(some 55), .mv (.t 54), none, [54], [], []⟩,
       ⟨(some 56), .mv (.t 1), (some (55, false)), [1], [], []⟩,
       ⟨(some 57), .bin .geq (.t 56) (.c (.int .i64 22)), (some (55, false)), [56], [], []⟩,
       ⟨(some 58), .pick (.t 55) (.c (.bool true)) (.t 57), none, [55, 57], [], []⟩,
       ⟨(some 6), .mv (.t 58), none, [58], [], []⟩])
      (.seq (.seq (.reg [⟨(some 59), .mv (.t 0), none, [], [], []⟩,
         ⟨(some 60), .bin .eql (.t 59) (.c (.int .i64 2)), none, [59], [], []⟩,
         ⟨(some 61), .mv (.t 60), none, [60], [], []⟩,
         ⟨(some 62), .mv (.t 5), (some (61, true)), [5], [], []⟩,
         ⟨(some 63), .pick (.t 61) (.t 62) (.c (.bool false)), none, [61, 62], [], []⟩,
         ⟨(some 64), .mv (.t 63), none, [63], [], []⟩,
         ⟨(some 65), .mv (.t 0), (some (64, false)), [0], [], []⟩,
         ⟨(some 66), .bin .eql (.t 65) (.c (.int .i64 3)), (some (64, false)), [65], [], []⟩,
         ⟨(some 67), .mv (.t 66), (some (64, false)), [66], [], []⟩,
         ⟨(some 68), .mv (.t 6), (some (67, true)), [6], [], []⟩,
         ⟨(some 69), .un .not (.t 68), (some (67, true)), [68], [], []⟩,
         ⟨(some 70), .pick (.t 67) (.t 69) (.c (.bool false)), (some (64, false)), [67, 69], [], []⟩,
         ⟨(some 71), .pick (.t 64) (.c (.bool true)) (.t 70), none, [64, 70], [], []⟩])
        (.cond (.t 71) (.seq (.reg [⟨(some 4), .mv (.c (.int .i64 18)), none, [], [], []⟩])
          (.ret))
         (.skip)))
       (.seq (.reg [⟨(some 4), .mv (.c (.int .i64 0)), none, [], [], []⟩])
        (.ret)))))))⟩
theorem chk17 : chkF Tryd.prog 17 sf17 = true := by kernel_rfl

/-- custody/tamper.Valid -/
def sf18 : SF := ⟨35, [.t 2],
 .seq (.reg [⟨(some 1), .box 24 (.t 0), none, [0], [], []⟩,
   ⟨(some 2), .mv (.c (.bool false)), none, [2], [], []⟩])
  (.seq (.reg [⟨(some 6), .fld (.t 1) 0, none, [], [], []⟩,
    ⟨(some 7), .load none (.t 6), none, [6], [], []⟩,
    ⟨(some 8), .bin .geq (.t 7) (.c (.int .i64 1)), none, [7], [], []⟩,
    ⟨(some 9), .mv (.t 8), none, [8], [], []⟩,
    ⟨(some 10), .fld (.t 1) 0, (some (9, true)), [], [], []⟩,
    ⟨(some 11), .load none (.t 10), (some (9, true)), [10], [], []⟩,
    ⟨(some 12), .bin .leq (.t 11) (.c (.int .i64 5)), (some (9, true)), [11], [], []⟩,
    ⟨(some 13), .pick (.t 9) (.t 12) (.c (.bool false)), none, [9, 12], [], []⟩,
    ⟨(some 14), .mv (.t 13), none, [13], [], []⟩,
    ⟨(some 15), .fld (.t 1) 1, (some (14, true)), [], [], []⟩,
    ⟨(some 16), .load none (.t 15), (some (14, true)), [15], [], []⟩,
    ⟨(some 17), .callp 30 [.t 16], (some (14, true)), [16], [], []⟩,
    ⟨(some 18), .pick (.t 14) (.t 17) (.c (.bool false)), none, [14, 17], [], []⟩,
    ⟨(some 3), .mv (.t 18), none, [18], [], []⟩])
   (.seq (.seq (.reg [⟨(some 19), .fld (.t 1) 2, none, [1], [], []⟩,
      ⟨(some 20), .load (some 4) (.t 19), none, [19], [], []⟩,
      ⟨(some 21), .mv (.c (.int .i64 0)), none, [], [], []⟩])
     (.block 0 (.loop (.seq (.reg [⟨(some 22), .bin .lss (.t 21) (.c (.int .i64 4)), none, [], [], []⟩])
        (.seq (.cond (.t 22) (.skip)
          (.exit 0))
         (.seq (.block 1 (.seq (.reg [⟨(some 23), .idxV (.t 20) (.t 21) 4 1 false, none, [], [], []⟩,
             ⟨(some 5), .mv (.t 23), none, [23], [], []⟩])
            (.reg [⟨(some 24), .mv (.t 3), none, [3], [], []⟩,
             ⟨(some 25), .mv (.t 24), none, [24], [], []⟩,
             ⟨(some 26), .mv (.t 5), (some (25, true)), [], [], []⟩,
             ⟨(some 27), .bin .geq (.t 26) (.c (.int .i64 0)), (some (25, true)), [26], [], []⟩,
             ⟨(some 28), .pick (.t 25) (.t 27) (.c (.bool false)), none, [25, 27], [], []⟩,
             ⟨(some 29), .mv (.t 28), none, [28], [], []⟩,
             ⟨(some 30), .mv (.t 5), (some (29, true)), [5], [], []⟩,
             ⟨(some 31), .bin .leq (.t 30) (.c (.int .i64 100)), (some (29, true)), [30], [], []⟩,
             ⟨(some 32), .pick (.t 29) (.t 31) (.c (.bool false)), none, [29, 31], [], []⟩,
             ⟨(some 3), .mv (.t 32), none, [32], [], []⟩])))
          (.reg [⟨(some 33), .bin .add (.t 21) (.c (.int .i64 1)), none, [21], [], []⟩,
           ⟨(some 21), .mv (.t 33), none, [33], [], []⟩])))))))
    (.seq (.reg [⟨(some 34), .mv (.t 3), none, [3], [], []⟩,
      ⟨(some 2), .mv (.t 34), none, [34], [], []⟩])
     (.ret))))⟩
theorem chk18 : chkF Tryd.prog 18 sf18 = true := by kernel_rfl

/-- custody/tamper.Step -/
def sf19 : SF := ⟨25, [.c 6 (some 6), .t 7],
 .seq (.reg [⟨(some 3), .box 24 (.t 0), none, [0], [], []⟩,
   ⟨(some 4), .box 34 (.t 1), none, [1], [], []⟩,
   ⟨(some 6), .new 24 [.int .i64 0, .int .i64 0, .int .i64 0, .int .i64 0, .int .i64 0, .int .i64 0], none, [], [], []⟩,
   ⟨(some 7), .mv (.c (.int .i64 0)), none, [7], [], []⟩])
  (.seq (.reg [⟨(some 9), .load (some 6) (.t 3), none, [3], [], []⟩,
    ⟨(some 10), .load (some 2) (.t 4), none, [4], [], []⟩,
    ⟨(some 11), .mv (.t 2), none, [2], [], []⟩,
    ⟨(some 12), .build [.int .i64 0, .int .i64 0, .int .i64 0, .int .i64 0, .int .i64 0, .int .i64 0, .int .i64 0, .int .i64 0, .int .i64 0] [(0, 6, .t 9), (6, 2, .t 10), (8, 1, .t 11)], none, [9, 10, 11], [], []⟩,
    ⟨(some 13), .box 57 (.t 12), none, [12], [], []⟩,
    ⟨(some 8), .mv (.t 13), none, [13], [], []⟩])
   (.seq (.reg [⟨(some 14), .mv (.t 8), none, [], [], []⟩,
     ⟨(some 15), .mv (.t 8), none, [], [], []⟩,
     ⟨(some 16), .mkfn 32 [.t 15] [], none, [15], [], []⟩,
     ⟨(some 17), .mv (.t 8), none, [], [], []⟩,
     ⟨(some 18), .mkfn 33 [.t 17] [], none, [17], [], []⟩,
     ⟨(some 19), .mv (.t 8), none, [8], [], []⟩,
     ⟨(some 20), .mkfn 34 [.t 19] [], none, [19], [], []⟩,
     ⟨(some 21), .bslice 1 1 3 [.val .nilFunc, .val .nilFunc, .val .nilFunc] [(0, 1, .t 16), (1, 1, .t 18), (2, 1, .t 20)], none, [16, 18, 20], [], []⟩,
     ⟨(some 22), .call 31 [.t 14, .t 21], none, [14, 21], [], []⟩,
     ⟨(some 23), .ext (.t 22) 0, none, [], [], []⟩,
     ⟨(some 24), .ext (.t 22) 1, none, [22], [], []⟩,
     ⟨none, .store 6 (.t 6) (.t 23), none, [23], [], []⟩,
     ⟨(some 7), .mv (.t 24), none, [24], [], []⟩])
    (.ret)))⟩
theorem chk19 : chkF Tryd.prog 19 sf19 = true := by kernel_rfl

/-- custody/tamper.Pass -/
def sf20 : SF := ⟨19, [.c 4 (some 6), .t 5],
 .seq (.reg [⟨(some 2), .box 24 (.t 0), none, [0], [], []⟩,
   ⟨(some 4), .new 24 [.int .i64 0, .int .i64 0, .int .i64 0, .int .i64 0, .int .i64 0, .int .i64 0], none, [], [], []⟩,
   ⟨(some 5), .mv (.c (.int .i64 0)), none, [5], [], []⟩])
  (.seq (.reg [⟨(some 7), .load (some 6) (.t 2), none, [2], [], []⟩,
    ⟨(some 8), .build [.int .i64 0, .int .i64 0] [(0, 1, .c (.int .i64 1))], none, [], [], []⟩,
    ⟨(some 9), .mv (.t 1), none, [1], [], []⟩,
    ⟨(some 10), .build [.int .i64 0, .int .i64 0, .int .i64 0, .int .i64 0, .int .i64 0, .int .i64 0, .int .i64 0, .int .i64 0, .int .i64 0] [(0, 6, .t 7), (6, 2, .t 8), (8, 1, .t 9)], none, [7, 8, 9], [], []⟩,
    ⟨(some 11), .box 57 (.t 10), none, [10], [], []⟩,
    ⟨(some 6), .mv (.t 11), none, [11], [], []⟩])
   (.seq (.reg [⟨(some 12), .mv (.t 6), none, [], [], []⟩,
     ⟨(some 13), .mv (.t 6), none, [6], [], []⟩,
     ⟨(some 14), .mkfn 32 [.t 13] [], none, [13], [], []⟩,
     ⟨(some 15), .bslice 1 1 1 [.val .nilFunc] [(0, 1, .t 14)], none, [14], [], []⟩,
     ⟨(some 16), .call 31 [.t 12, .t 15], none, [12, 15], [], []⟩,
     ⟨(some 17), .ext (.t 16) 0, none, [], [], []⟩,
     ⟨(some 18), .ext (.t 16) 1, none, [16], [], []⟩,
     ⟨none, .store 6 (.t 4) (.t 17), none, [17], [], []⟩,
     ⟨(some 5), .mv (.t 18), none, [18], [], []⟩])
    (.ret)))⟩
theorem chk20 : chkF Tryd.prog 20 sf20 = true := by kernel_rfl

/-- custody/tamper.Total -/
def sf21 : SF := ⟨16, [.t 2],
 .seq (.reg [⟨(some 1), .box 24 (.t 0), none, [0], [], []⟩,
   ⟨(some 2), .mv (.c (.int .i64 0)), none, [2], [], []⟩])
  (.seq (.reg [⟨(some 3), .mv (.c (.int .i64 0)), none, [], [], []⟩])
   (.seq (.seq (.reg [⟨(some 6), .fld (.t 1) 2, none, [1], [], []⟩,
      ⟨(some 7), .load (some 4) (.t 6), none, [6], [], []⟩,
      ⟨(some 8), .mv (.c (.int .i64 0)), none, [], [], []⟩])
     (.block 0 (.loop (.seq (.reg [⟨(some 9), .bin .lss (.t 8) (.c (.int .i64 4)), none, [], [], []⟩])
        (.seq (.cond (.t 9) (.skip)
          (.exit 0))
         (.seq (.block 1 (.seq (.reg [⟨(some 10), .idxV (.t 7) (.t 8) 4 1 false, none, [], [], []⟩,
             ⟨(some 5), .mv (.t 10), none, [10], [], []⟩])
            (.reg [⟨(some 11), .mv (.t 3), none, [3], [], []⟩,
             ⟨(some 12), .mv (.t 5), none, [5], [], []⟩,
             ⟨(some 13), .bin .add (.t 11) (.t 12), none, [11, 12], [], []⟩,
             ⟨(some 3), .mv (.t 13), none, [13], [], []⟩])))
          (.reg [⟨(some 14), .bin .add (.t 8) (.c (.int .i64 1)), none, [8], [], []⟩,
           ⟨(some 8), .mv (.t 14), none, [14], [], []⟩])))))))
    (.seq (.reg [⟨(some 15), .mv (.t 3), none, [3], [], []⟩,
      ⟨(some 2), .mv (.t 15), none, [15], [], []⟩])
     (.ret))))⟩
theorem chk21 : chkF Tryd.prog 21 sf21 = true := by kernel_rfl

/-- custody/tamper.New -/
def sf22 : SF := ⟨10, [.c 2 (some 6), .t 3],
 .seq (.reg [⟨(some 2), .new 24 [.int .i64 0, .int .i64 0, .int .i64 0, .int .i64 0, .int .i64 0, .int .i64 0], none, [], [], []⟩,
   ⟨(some 3), .mv (.c (.int .i64 0)), none, [3], [], []⟩])
  (.seq (.seq (.reg [⟨(some 4), .mv (.t 0), none, [], [], []⟩,
     ⟨(some 5), .callp 30 [.t 4], none, [4], [], []⟩,
     ⟨(some 6), .un .not (.t 5), none, [5], [], []⟩])
    (.cond (.t 6) (.seq (.reg [⟨(some 7), .build [.int .i64 0, .int .i64 0, .int .i64 0, .int .i64 0, .int .i64 0, .int .i64 0] [], none, [], [], []⟩,
       ⟨none, .store 6 (.t 2) (.t 7), none, [7], [], []⟩,
       ⟨(some 3), .mv (.c (.int .i64 1)), none, [], [], []⟩])
      (.ret))
     (.skip)))
   (.seq (.reg [⟨(some 8), .mv (.t 0), none, [0], [], []⟩,
     ⟨(some 9), .build [.int .i64 0, .int .i64 0, .int .i64 0, .int .i64 0, .int .i64 0, .int .i64 0] [(0, 1, .c (.int .i64 1)), (1, 1, .t 8)], none, [8], [], []⟩,
     ⟨none, .store 6 (.t 2) (.t 9), none, [9], [], []⟩,
     ⟨(some 3), .mv (.c (.int .i64 0)), none, [], [], []⟩])
    (.ret)))⟩
theorem chk22 : chkF Tryd.prog 22 sf22 = true := by kernel_rfl

/-- custody/tamper.Alarm -/
def sf23 : SF := ⟨29, [.t 2],
 .seq (.reg [⟨(some 1), .box 34 (.t 0), none, [0], [], []⟩,
   ⟨(some 2), .mv (.c (.bool false)), none, [2], [], []⟩])
  (.seq (.seq (.reg [⟨(some 4), .load (some 2) (.t 1), none, [], [], []⟩,
     ⟨(some 5), .callp 35 [.t 4], none, [4], [], []⟩,
     ⟨(some 6), .un .not (.t 5), none, [5], [], []⟩])
    (.cond (.t 6) (.seq (.reg [⟨(some 2), .mv (.c (.bool false)), none, [], [], []⟩])
      (.ret))
     (.skip)))
   (.seq (.reg [⟨(some 7), .fld (.t 1) 0, none, [], [], []⟩,
     ⟨(some 8), .load none (.t 7), none, [7], [], []⟩,
     ⟨(some 9), .bin .sub (.t 8) (.c (.int .i64 1)), none, [8], [], []⟩,
     ⟨(some 10), .idxA (.g 0) (.t 9) 4 3, none, [9], [], []⟩,
     ⟨(some 11), .load (some 3) (.t 10), none, [10], [], []⟩,
     ⟨(some 3), .new 59 [.int .i64 0, .int .i64 0, .int .i64 0], none, [], [], []⟩,
     ⟨none, .store 3 (.t 3) (.t 11), none, [11], [], []⟩])
    (.seq (.reg [⟨(some 12), .fld (.t 1) 1, none, [], [], []⟩,
      ⟨(some 13), .load none (.t 12), none, [12], [], []⟩,
      ⟨(some 14), .fld (.t 3) 1, none, [], [], []⟩,
      ⟨(some 15), .load none (.t 14), none, [14], [], []⟩,
      ⟨(some 16), .bin .geq (.t 13) (.t 15), none, [13, 15], [], []⟩,
      ⟨(some 17), .mv (.t 16), none, [16], [], []⟩,
      ⟨(some 18), .fld (.t 3) 0, (some (17, false)), [], [], []⟩,
      ⟨(some 19), .load none (.t 18), (some (17, false)), [18], [], []⟩,
      ⟨(some 20), .bin .neq (.t 19) (.c (.int .i64 (-9223372036854775808))), (some (17, false)), [19], [], []⟩,
      ⟨(some 21), .mv (.t 20), (some (17, false)), [20], [], []⟩,
      ⟨(some 22), .fld (.t 1) 1, (some (21, true)), [1], [], []⟩,
      ⟨(some 23), .load none (.t 22), (some (21, true)), [22], [], []⟩,
      ⟨(some 24), .fld (.t 3) 0, (some (21, true)), [3], [], []⟩,
      ⟨(some 25), .load none (.t 24), (some (21, true)), [24], [], []⟩,
      ⟨(some 26), .bin .leq (.t 23) (.t 25), (some (21, true)), [23, 25], [], []⟩,
      ⟨(some 27), .pick (.t 21) (.t 26) (.c (.bool false)), (some (17, false)), [21, 26], [], []⟩,
      ⟨(some 28), .pick (.t 17) (.c (.bool true)) (.t 27), none, [17, 27], [], []⟩,
      ⟨(some 2), .mv (.t 28), none, [28], [], []⟩])
     (.ret))))⟩
theorem chk23 : chkF Tryd.prog 23 sf23 = true := by kernel_rfl

/-- custody/custodyref32.check -/
def sf24 : SF := ⟨22, [.t 4],
 .seq (.reg [⟨(some 2), .box 24 (.t 0), none, [0], [], []⟩,
   ⟨(some 4), .mv (.c (.int .i64 0)), none, [4], [], []⟩])
  (.seq (.reg [⟨(some 6), .load (some 6) (.t 2), none, [], [], []⟩,
    ⟨(some 7), .callp 29 [.t 6], none, [6], [], []⟩,
    ⟨(some 5), .mv (.t 7), none, [7], [], []⟩])
   (.seq (.seq (.reg [⟨(some 8), .mv (.t 5), none, [5], [], []⟩,
      ⟨(some 9), .un .not (.t 8), none, [8], [], []⟩,
      ⟨(some 10), .mv (.t 9), none, [9], [], []⟩,
      ⟨(some 11), .mv (.t 1), (some (10, false)), [], [], []⟩,
      ⟨(some 12), .bin .lss (.t 11) (.c (.int .i64 0)), (some (10, false)), [11], [], []⟩,
      ⟨(some 13), .pick (.t 10) (.c (.bool true)) (.t 12), none, [10, 12], [], []⟩,
      ⟨(some 14), .mv (.t 13), none, [13], [], []⟩,
      ⟨(some 15), .mv (.t 1), (some (14, false)), [], [], []⟩,
      ⟨(some 16), .bin .gtr (.t 15) (.c (.int .i64 1099511627776)), (some (14, false)), [15], [], []⟩,
      ⟨(some 17), .pick (.t 14) (.c (.bool true)) (.t 16), none, [14, 16], [], []⟩])
     (.cond (.t 17) (.seq (.reg [⟨(some 4), .mv (.c (.int .i64 1)), none, [], [], []⟩])
       (.ret))
      (.skip)))
    (.seq (.seq (.reg [⟨(some 18), .mv (.t 1), none, [1], [], []⟩,
       ⟨(some 19), .fld (.t 2) 1, none, [2], [], []⟩,
       ⟨(some 20), .load none (.t 19), none, [19], [], []⟩,
       ⟨(some 21), .bin .lss (.t 18) (.t 20), none, [18, 20], [], []⟩])
      (.cond (.t 21) (.seq (.reg [⟨(some 4), .mv (.c (.int .i64 20)), none, [], [], []⟩])
        (.ret))
       (.skip)))
     (.seq (.reg [⟨(some 4), .mv (.c (.int .i64 0)), none, [], [], []⟩])
      (.ret)))))⟩
theorem chk24 : chkF Tryd.prog 24 sf24 = true := by kernel_rfl

/-- custody/custodyref32.over -/
def sf25 : SF := ⟨6, [.t 2],
 .seq (.reg [⟨(some 1), .box 24 (.t 0), none, [0], [], []⟩,
   ⟨(some 2), .mv (.c (.bool false)), none, [2], [], []⟩])
  (.seq (.reg [⟨(some 3), .fld (.t 1) 0, none, [1], [], []⟩,
    ⟨(some 4), .load none (.t 3), none, [3], [], []⟩,
    ⟨(some 5), .bin .geq (.t 4) (.c (.int .i64 4)), none, [4], [], []⟩,
    ⟨(some 2), .mv (.t 5), none, [5], [], []⟩])
   (.ret))⟩
theorem chk25 : chkF Tryd.prog 25 sf25 = true := by kernel_rfl

/-- custody/custodyref32.passed -/
def sf26 : SF := ⟨45, [.c 4 (some 6)],
 .seq (.reg [⟨(some 2), .box 24 (.t 0), none, [0], [], []⟩,
   ⟨(some 4), .new 24 [.int .i64 0, .int .i64 0, .int .i64 0, .int .i64 0, .int .i64 0, .int .i64 0], none, [], [], []⟩])
  (.seq (.seq (.reg [⟨(some 7), .load (some 6) (.t 2), none, [], [], []⟩,
     ⟨(some 8), .callp 25 [.t 7], none, [7], [], []⟩])
    (.cond (.t 8) (.seq (.reg [⟨(some 9), .load (some 6) (.t 2), none, [2], [], []⟩,
       ⟨none, .store 6 (.t 4) (.t 9), none, [9], [], []⟩])
      (.ret))
     (.skip)))
   (.seq (.reg [⟨(some 10), .mv (.t 1), none, [1], [], []⟩,
     ⟨(some 11), .fld (.t 2) 1, none, [], [], []⟩,
     ⟨(some 12), .load none (.t 11), none, [11], [], []⟩,
     ⟨(some 13), .bin .sub (.t 10) (.t 12), none, [10, 12], [], []⟩,
     ⟨(some 14), .bin .quo (.t 13) (.c (.int .i64 60)), none, [13], [], []⟩,
     ⟨(some 5), .mv (.t 14), none, [14], [], []⟩])
    (.seq (.seq (.reg [⟨(some 6), .mv (.c (.int .i64 0)), none, [], [], []⟩])
      (.block 0 (.loop (.seq (.seq (.reg [⟨(some 15), .mv (.t 6), none, [], [], []⟩,
           ⟨(some 16), .bin .lss (.t 15) (.c (.int .i64 4)), none, [15], [], []⟩])
          (.cond (.t 16) (.skip)
           (.exit 0)))
         (.seq (.block 1 (.reg [⟨(some 19), .mv (.t 6), none, [], [], []⟩,
            ⟨(some 20), .mv (.t 6), none, [], [], []⟩,
            ⟨(some 21), .fld (.t 2) 2, none, [], [], []⟩,
            ⟨(some 22), .idxA (.t 21) (.t 20) 4 1, none, [20, 21], [], []⟩,
            ⟨(some 23), .load none (.t 22), none, [22], [], []⟩,
            ⟨(some 24), .mv (.t 5), none, [], [], []⟩,
            ⟨(some 25), .bin .sub (.t 23) (.t 24), none, [23, 24], [], []⟩,
            ⟨(some 26), .mx (.c (.int .i64 0)) (.t 25), none, [25], [], []⟩,
            ⟨(some 27), .fld (.t 2) 2, none, [], [], []⟩,
            ⟨(some 28), .idxA (.t 27) (.t 19) 4 1, none, [19, 27], [], []⟩,
            ⟨none, .store 1 (.t 28) (.t 26), none, [26, 28], [], []⟩]))
          (.reg [⟨(some 17), .mv (.t 6), none, [6], [], []⟩,
           ⟨(some 18), .bin .add (.t 17) (.c (.int .i64 1)), none, [17], [], []⟩,
           ⟨(some 6), .mv (.t 18), none, [18], [], []⟩]))))))
     (.seq (.reg [⟨(some 29), .fld (.t 2) 1, none, [], [], []⟩,
       ⟨(some 30), .load none (.t 29), none, [29], [], []⟩,
       ⟨(some 31), .mv (.t 5), none, [5], [], []⟩,
       ⟨(some 32), .bin .mul (.c (.int .i64 60)) (.t 31), none, [31], [], []⟩,
       ⟨(some 33), .bin .add (.t 30) (.t 32), none, [30, 32], [], []⟩,
       ⟨(some 34), .fld (.t 2) 1, none, [], [], []⟩,
       ⟨none, .store 1 (.t 34) (.t 33), none, [33, 34], [], []⟩])
      (.seq (.seq (.reg [⟨(some 35), .fld (.t 2) 0, none, [], [], []⟩,
         ⟨(some 36), .load none (.t 35), none, [35], [], []⟩,
         ⟨(some 37), .bin .eql (.t 36) (.c (.int .i64 2)), none, [36], [], []⟩,
         ⟨(some 38), .mv (.t 37), none, [37], [], []⟩,
         ⟨(some 39), .load (some 6) (.t 2), (some (38, true)), [], [], []⟩,
         ⟨(some 40), .callp 27 [.t 39], (some (38, true)), [39], [], []⟩,
         ⟨(some 41), .bin .eql (.t 40) (.c (.int .i64 0)), (some (38, true)), [40], [], []⟩,
         ⟨(some 42), .pick (.t 38) (.t 41) (.c (.bool false)), none, [38, 41], [], []⟩])
        (.cond (.t 42) (.reg [⟨(some 43), .fld (.t 2) 0, none, [], [], []⟩,
          ⟨none, .store 1 (.t 43) (.c (.int .i64 1)), none, [43], [], []⟩])
         (.skip)))
       (.seq (.reg [⟨(some 44), .load (some 6) (.t 2), none, [2], [], []⟩,
         ⟨none, .store 6 (.t 4) (.t 44), none, [44], [], []⟩])
        (.ret)))))))⟩
theorem chk26 : chkF Tryd.prog 26 sf26 = true := by kernel_rfl

/-- custody/custodyref32.Total -/
def sf27 : SF := ⟨18, [.t 2],
 .seq (.reg [⟨(some 1), .box 24 (.t 0), none, [0], [], []⟩,
   ⟨(some 2), .mv (.c (.int .i64 0)), none, [2], [], []⟩])
  (.seq (.reg [⟨(some 3), .fld (.t 1) 2, none, [], [], []⟩,
    ⟨(some 4), .idxA (.t 3) (.c (.int .i64 0)) 4 1, none, [3], [], []⟩,
    ⟨(some 5), .load none (.t 4), none, [4], [], []⟩,
    ⟨(some 6), .fld (.t 1) 2, none, [], [], []⟩,
    ⟨(some 7), .idxA (.t 6) (.c (.int .i64 1)) 4 1, none, [6], [], []⟩,
    ⟨(some 8), .load none (.t 7), none, [7], [], []⟩,
    ⟨(some 9), .bin .add (.t 5) (.t 8), none, [5, 8], [], []⟩,
    ⟨(some 10), .fld (.t 1) 2, none, [], [], []⟩,
    ⟨(some 11), .idxA (.t 10) (.c (.int .i64 2)) 4 1, none, [10], [], []⟩,
    ⟨(some 12), .load none (.t 11), none, [11], [], []⟩,
    ⟨(some 13), .bin .add (.t 9) (.t 12), none, [9, 12], [], []⟩,
    ⟨(some 14), .fld (.t 1) 2, none, [1], [], []⟩,
    ⟨(some 15), .idxA (.t 14) (.c (.int .i64 3)) 4 1, none, [14], [], []⟩,
    ⟨(some 16), .load none (.t 15), none, [15], [], []⟩,
    ⟨(some 17), .bin .add (.t 13) (.t 16), none, [13, 16], [], []⟩,
    ⟨(some 2), .mv (.t 17), none, [17], [], []⟩])
   (.ret))⟩
theorem chk27 : chkF Tryd.prog 27 sf27 = true := by kernel_rfl

/-- custody/tamper.end -/
def sf28 : SF := ⟨16, [.c 4 (some 6), .t 5],
 .seq (.reg [⟨(some 2), .box 24 (.t 0), none, [0], [], []⟩,
   ⟨(some 4), .new 24 [.int .i64 0, .int .i64 0, .int .i64 0, .int .i64 0, .int .i64 0, .int .i64 0], none, [], [], []⟩,
   ⟨(some 5), .mv (.c (.int .i64 0)), none, [5], [], []⟩])
  (.seq (.seq (.reg [⟨(some 6), .load (some 6) (.t 2), none, [], [], []⟩,
     ⟨(some 7), .callp 18 [.t 6], none, [6], [], []⟩,
     ⟨(some 8), .un .not (.t 7), none, [7], [], []⟩])
    (.cond (.t 8) (.seq (.reg [⟨(some 9), .build [.int .i64 0, .int .i64 0, .int .i64 0, .int .i64 0, .int .i64 0, .int .i64 0] [], none, [], [], []⟩,
       ⟨none, .store 6 (.t 4) (.t 9), none, [9], [], []⟩,
       ⟨(some 5), .mv (.c (.int .i64 1)), none, [], [], []⟩])
      (.ret))
     (.skip)))
   (.seq (.reg [⟨(some 10), .fld (.t 2) 0, none, [], [], []⟩,
     ⟨(some 11), .load none (.t 10), none, [10], [], []⟩,
     ⟨(some 12), .mv (.t 1), none, [1], [], []⟩,
     ⟨(some 13), .mx (.t 11) (.t 12), none, [11, 12], [], []⟩,
     ⟨(some 14), .fld (.t 2) 0, none, [], [], []⟩,
     ⟨none, .store 1 (.t 14) (.t 13), none, [13, 14], [], []⟩])
    (.seq (.reg [⟨(some 15), .load (some 6) (.t 2), none, [2], [], []⟩,
      ⟨none, .store 6 (.t 4) (.t 15), none, [15], [], []⟩,
      ⟨(some 5), .mv (.c (.int .i64 0)), none, [], [], []⟩])
     (.ret))))⟩
theorem chk28 : chkF Tryd.prog 28 sf28 = true := by kernel_rfl

/-- custody/custodyref32.Valid -/
def sf29 : SF := ⟨38, [.t 2],
 .seq (.reg [⟨(some 1), .box 24 (.t 0), none, [0], [], []⟩,
   ⟨(some 2), .mv (.c (.bool false)), none, [2], [], []⟩])
  (.seq (.seq (.reg [⟨(some 4), .fld (.t 1) 0, none, [], [], []⟩,
     ⟨(some 5), .load none (.t 4), none, [4], [], []⟩,
     ⟨(some 6), .bin .lss (.t 5) (.c (.int .i64 1)), none, [5], [], []⟩,
     ⟨(some 7), .mv (.t 6), none, [6], [], []⟩,
     ⟨(some 8), .fld (.t 1) 0, (some (7, false)), [], [], []⟩,
     ⟨(some 9), .load none (.t 8), (some (7, false)), [8], [], []⟩,
     ⟨(some 10), .bin .gtr (.t 9) (.c (.int .i64 5)), (some (7, false)), [9], [], []⟩,
     ⟨(some 11), .pick (.t 7) (.c (.bool true)) (.t 10), none, [7, 10], [], []⟩,
     ⟨(some 12), .mv (.t 11), none, [11], [], []⟩,
     ⟨(some 13), .fld (.t 1) 1, (some (12, false)), [], [], []⟩,
     ⟨(some 14), .load none (.t 13), (some (12, false)), [13], [], []⟩,
     ⟨(some 15), .bin .lss (.t 14) (.c (.int .i64 0)), (some (12, false)), [14], [], []⟩,
     ⟨(some 16), .pick (.t 12) (.c (.bool true)) (.t 15), none, [12, 15], [], []⟩,
     ⟨(some 17), .mv (.t 16), none, [16], [], []⟩,
     ⟨(some 18), .fld (.t 1) 1, (some (17, false)), [], [], []⟩,
     ⟨(some 19), .load none (.t 18), (some (17, false)), [18], [], []⟩,
     ⟨(some 20), .bin .gtr (.t 19) (.c (.int .i64 1099511627776)), (some (17, false)), [19], [], []⟩,
     ⟨(some 21), .pick (.t 17) (.c (.bool true)) (.t 20), none, [17, 20], [], []⟩])
    (.cond (.t 21) (.seq (.reg [⟨(some 2), .mv (.c (.bool false)), none, [], [], []⟩])
      (.ret))
     (.skip)))
   (.seq (.seq (.reg [⟨(some 3), .mv (.c (.int .i64 0)), none, [], [], []⟩])
     (.block 0 (.loop (.seq (.seq (.reg [⟨(some 22), .mv (.t 3), none, [], [], []⟩,
          ⟨(some 23), .bin .lss (.t 22) (.c (.int .i64 4)), none, [22], [], []⟩])
         (.cond (.t 23) (.skip)
          (.exit 0)))
        (.seq (.block 1 (.seq (.reg [⟨(some 26), .mv (.t 3), none, [], [], []⟩,
            ⟨(some 27), .fld (.t 1) 2, none, [], [], []⟩,
            ⟨(some 28), .idxA (.t 27) (.t 26) 4 1, none, [26, 27], [], []⟩,
            ⟨(some 29), .load none (.t 28), none, [28], [], []⟩,
            ⟨(some 30), .bin .lss (.t 29) (.c (.int .i64 0)), none, [29], [], []⟩,
            ⟨(some 31), .mv (.t 30), none, [30], [], []⟩,
            ⟨(some 32), .mv (.t 3), (some (31, false)), [], [], []⟩,
            ⟨(some 33), .fld (.t 1) 2, (some (31, false)), [], [], []⟩,
            ⟨(some 34), .idxA (.t 33) (.t 32) 4 1, (some (31, false)), [32, 33], [], []⟩,
            ⟨(some 35), .load none (.t 34), (some (31, false)), [34], [], []⟩,
            ⟨(some 36), .bin .gtr (.t 35) (.c (.int .i64 100)), (some (31, false)), [35], [], []⟩,
            ⟨(some 37), .pick (.t 31) (.c (.bool true)) (.t 36), none, [31, 36], [], []⟩])
           (.cond (.t 37) (.seq (.reg [⟨(some 2), .mv (.c (.bool false)), none, [], [], []⟩])
             (.ret))
            (.skip))))
         (.reg [⟨(some 24), .mv (.t 3), none, [3], [], []⟩,
          ⟨(some 25), .bin .add (.t 24) (.c (.int .i64 1)), none, [24], [], []⟩,
          ⟨(some 3), .mv (.t 25), none, [25], [], []⟩]))))))
    (.seq (.reg [⟨(some 2), .mv (.c (.bool true)), none, [], [], []⟩])
     (.ret))))⟩
theorem chk29 : chkF Tryd.prog 29 sf29 = true := by kernel_rfl

/-- custody/tamper.time -/
def sf30 : SF := ⟨9, [.t 2],
 .seq (.reg [⟨(some 2), .mv (.c (.bool false)), none, [2], [], []⟩])
  (.seq (.reg [⟨(some 3), .mv (.t 0), none, [], [], []⟩,
    ⟨(some 4), .bin .geq (.t 3) (.c (.int .i64 0)), none, [3], [], []⟩,
    ⟨(some 5), .mv (.t 4), none, [4], [], []⟩,
    ⟨(some 6), .mv (.t 0), (some (5, true)), [0], [], []⟩,
    ⟨(some 7), .bin .leq (.t 6) (.c (.int .i64 1099511627776)), (some (5, true)), [6], [], []⟩,
    ⟨(some 8), .pick (.t 5) (.t 7) (.c (.bool false)), none, [5, 7], [], []⟩,
    ⟨(some 2), .mv (.t 8), none, [8], [], []⟩])
   (.ret))⟩
theorem chk30 : chkF Tryd.prog 30 sf30 = true := by kernel_rfl

/-- (*custody/tamper.change).apply -/
def sf31 : SF := ⟨63, [.c 4 (some 6), .t 5],
 .seq (.reg [⟨(some 4), .new 24 [.int .i64 0, .int .i64 0, .int .i64 0, .int .i64 0, .int .i64 0, .int .i64 0], none, [], [], []⟩,
   ⟨(some 5), .mv (.c (.int .i64 0)), none, [5], [], []⟩])
  (.seq (.block 0 (.seq (.reg [⟨(some 9), .mv (.t 0), none, [], [], []⟩,
      ⟨(some 10), .nilc (.t 9), none, [9], [], []⟩,
      ⟨(some 11), .fld (.t 10) 0, none, [10], [], []⟩,
      ⟨(some 12), .load (some 6) (.t 11), none, [11], [], []⟩,
      ⟨(some 13), .callp 18 [.t 12], none, [12], [], []⟩,
      ⟨(some 14), .un .not (.t 13), none, [13], [], []⟩,
      ⟨(some 15), .mv (.t 14), none, [14], [], []⟩,
      ⟨(some 16), .mv (.t 0), (some (15, false)), [], [], []⟩,
      ⟨(some 17), .nilc (.t 16), (some (15, false)), [16], [], []⟩,
      ⟨(some 18), .fld (.t 17) 8, (some (15, false)), [17], [], []⟩,
      ⟨(some 19), .load none (.t 18), (some (15, false)), [18], [], []⟩,
      ⟨(some 20), .callp 30 [.t 19], (some (15, false)), [19], [], []⟩,
      ⟨(some 21), .un .not (.t 20), (some (15, false)), [20], [], []⟩,
      ⟨(some 22), .pick (.t 15) (.c (.bool true)) (.t 21), none, [15, 21], [], []⟩,
      ⟨(some 8), .mv (.t 22), none, [22], [], []⟩])
     (.cond (.t 8) (.seq (.reg [⟨(some 23), .build [.int .i64 0, .int .i64 0, .int .i64 0, .int .i64 0, .int .i64 0, .int .i64 0] [], none, [], [], []⟩,
        ⟨none, .store 6 (.t 4) (.t 23), none, [23], [], []⟩,
        ⟨(some 5), .mv (.c (.int .i64 1)), none, [], [], []⟩])
       (.ret))
      (.seq (.regP 9 [⟨(some 25), .mv (.t 0), none, [], [], [29, 30, 31, 32, 33]⟩,
        ⟨(some 26), .nilc (.t 25), none, [], [0], [29, 30, 31, 32, 33]⟩,
        ⟨(some 27), .fld (.t 26) 8, none, [], [0, 1], [29, 30, 31, 32, 33]⟩,
        ⟨(some 28), .load none (.t 27), none, [], [0, 1, 2], [29, 30, 31, 32, 33]⟩,
        ⟨(some 29), .mv (.t 0), none, [], [], [25, 26, 27, 28]⟩,
        ⟨(some 30), .nilc (.t 29), none, [], [4], [25, 26, 27, 28]⟩,
        ⟨(some 31), .fld (.t 30) 0, none, [], [4, 5], [25, 26, 27, 28]⟩,
        ⟨(some 32), .fld (.t 31) 1, none, [], [4, 5, 6], [25, 26, 27, 28]⟩,
        ⟨(some 33), .load none (.t 32), none, [25, 26, 27, 29, 30, 31, 32], [4, 5, 6, 7], [25, 26, 27, 28]⟩,
        ⟨(some 34), .bin .lss (.t 28) (.t 33), none, [28, 33], [0, 1, 2, 3, 4, 5, 6, 7, 8], []⟩,
        ⟨(some 24), .mv (.t 34), none, [34], [0, 1, 2, 3, 4, 5, 6, 7, 8, 9], []⟩])
       (.cond (.t 24) (.seq (.reg [⟨(some 35), .build [.int .i64 0, .int .i64 0, .int .i64 0, .int .i64 0, .int .i64 0, .int .i64 0] [], none, [], [], []⟩,
          ⟨none, .store 6 (.t 4) (.t 35), none, [35], [], []⟩,
          ⟨(some 5), .mv (.c (.int .i64 20)), none, [], [], []⟩])
         (.ret))
        (.seq (.reg [⟨(some 37), .mv (.t 0), none, [], [], []⟩,
          ⟨(some 38), .nilc (.t 37), none, [37], [], []⟩,
          ⟨(some 39), .fld (.t 38) 6, none, [38], [], []⟩,
          ⟨(some 40), .load (some 2) (.t 39), none, [39], [], []⟩,
          ⟨(some 41), .callp 35 [.t 40], none, [40], [], []⟩,
          ⟨(some 42), .un .not (.t 41), none, [41], [], []⟩,
          ⟨(some 36), .mv (.t 42), none, [42], [], []⟩])
         (.cond (.t 36) (.seq (.reg [⟨(some 43), .build [.int .i64 0, .int .i64 0, .int .i64 0, .int .i64 0, .int .i64 0, .int .i64 0] [], none, [], [], []⟩,
            ⟨none, .store 6 (.t 4) (.t 43), none, [43], [], []⟩,
            ⟨(some 5), .mv (.c (.int .i64 1)), none, [], [], []⟩])
           (.ret))
          (.skip))))))))
   (.seq (.seq (.reg [⟨(some 44), .mv (.t 1), none, [1], [], []⟩,
      ⟨(some 45), .len false (.t 44), none, [], [], []⟩,
      ⟨(some 46), .mv (.c (.int .i64 0)), none, [], [], []⟩])
     (.block 1 (.loop (.seq (.reg [⟨(some 47), .bin .lss (.t 46) (.t 45), none, [], [], []⟩])
        (.seq (.cond (.t 47) (.skip)
          (.exit 1))
         (.seq (.block 2 (.seq (.reg [⟨(some 48), .idxS (.t 44) (.t 46) 1, none, [], [], []⟩,
             ⟨(some 49), .load none (.t 48), none, [48], [], []⟩,
             ⟨(some 7), .mv (.t 49), none, [49], [], []⟩])
            (.seq (.reg [⟨(some 50), .mv (.t 0), none, [], [], []⟩,
              ⟨(some 51), .nilc (.t 50), none, [50], [], []⟩,
              ⟨(some 52), .fld (.t 51) 0, none, [51], [], []⟩,
              ⟨(some 53), .fld (.t 52) 0, none, [52], [], []⟩,
              ⟨(some 54), .load none (.t 53), none, [53], [], []⟩,
              ⟨(some 55), .bin .lss (.t 54) (.c (.int .i64 4)), none, [54], [], []⟩])
             (.cond (.t 55) (.reg [⟨(some 56), .mv (.t 7), none, [7], [], []⟩,
               ⟨(some 57), .callv (.t 56) [], none, [56, 57], [], []⟩])
              (.skip)))))
          (.reg [⟨(some 58), .bin .add (.t 46) (.c (.int .i64 1)), none, [46], [], []⟩,
           ⟨(some 46), .mv (.t 58), none, [58], [], []⟩])))))))
    (.seq (.reg [⟨(some 59), .mv (.t 0), none, [0], [], []⟩,
      ⟨(some 60), .nilc (.t 59), none, [59], [], []⟩,
      ⟨(some 61), .fld (.t 60) 0, none, [60], [], []⟩,
      ⟨(some 62), .load (some 6) (.t 61), none, [61], [], []⟩,
      ⟨none, .store 6 (.t 4) (.t 62), none, [62], [], []⟩,
      ⟨(some 5), .mv (.c (.int .i64 0)), none, [], [], []⟩])
     (.ret))))⟩
theorem chk31 : chkF Tryd.prog 31 sf31 = true := by kernel_rfl

/-- (*custody/tamper.change).pass -/
def sf32 : SF := ⟨64, [],
 .seq (.regP 9 [⟨(some 4), .mv (.t 0), none, [], [], [8, 9, 10, 11, 12]⟩,
   ⟨(some 5), .nilc (.t 4), none, [], [0], [8, 9, 10, 11, 12]⟩,
   ⟨(some 6), .fld (.t 5) 8, none, [], [0, 1], [8, 9, 10, 11, 12]⟩,
   ⟨(some 7), .load none (.t 6), none, [], [0, 1, 2], [8, 9, 10, 11, 12]⟩,
   ⟨(some 8), .mv (.t 0), none, [], [], [4, 5, 6, 7]⟩,
   ⟨(some 9), .nilc (.t 8), none, [], [4], [4, 5, 6, 7]⟩,
   ⟨(some 10), .fld (.t 9) 0, none, [], [4, 5], [4, 5, 6, 7]⟩,
   ⟨(some 11), .fld (.t 10) 1, none, [], [4, 5, 6], [4, 5, 6, 7]⟩,
   ⟨(some 12), .load none (.t 11), none, [4, 5, 6, 8, 9, 10, 11], [4, 5, 6, 7], [4, 5, 6, 7]⟩,
   ⟨(some 13), .bin .sub (.t 7) (.t 12), none, [7, 12], [0, 1, 2, 3, 4, 5, 6, 7, 8], []⟩,
   ⟨(some 14), .bin .quo (.t 13) (.c (.int .i64 60)), none, [13], [0, 1, 2, 3, 4, 5, 6, 7, 8, 9], []⟩,
   ⟨(some 2), .mv (.t 14), none, [14], [0, 1, 2, 3, 4, 5, 6, 7, 8, 9, 10], []⟩])
  (.seq (.seq (.reg [⟨(some 15), .mv (.c (.int .i64 0)), none, [], [], []⟩])
    (.block 0 (.loop (.seq (.reg [⟨(some 16), .bin .lss (.t 15) (.c (.int .i64 4)), none, [], [], []⟩])
       (.seq (.cond (.t 16) (.skip)
         (.exit 0))
        (.seq (.block 1 (.seq (.reg [⟨(some 17), .mv (.t 15), none, [], [], []⟩,
            ⟨(some 3), .mv (.t 17), none, [17], [], []⟩])
           (.regP 15 [⟨(some 18), .mv (.t 0), none, [], [], [19, 20, 21, 22, 23, 24, 25, 26, 27, 28, 29]⟩,
            ⟨(some 19), .mv (.t 3), none, [], [], [18, 20, 21, 22, 23, 24, 25, 26, 27, 28, 29, 30, 31, 32]⟩,
            ⟨(some 20), .mv (.t 0), none, [], [], [18, 19, 21, 27, 30, 31, 32]⟩,
            ⟨(some 21), .mv (.t 3), none, [], [], [18, 19, 20, 22, 23, 24, 27, 30, 31, 32]⟩,
            ⟨(some 22), .nilc (.t 20), none, [], [2], [18, 19, 21, 27, 30, 31, 32]⟩,
            ⟨(some 23), .fld (.t 22) 0, none, [], [2, 4], [18, 19, 21, 27, 30, 31, 32]⟩,
            ⟨(some 24), .fld (.t 23) 2, none, [], [2, 4, 5], [18, 19, 21, 27, 30, 31, 32]⟩,
            ⟨(some 25), .idxA (.t 24) (.t 21) 4 1, none, [], [2, 3, 4, 5, 6], [18, 19, 27, 30, 31, 32]⟩,
            ⟨(some 26), .load none (.t 25), none, [], [2, 3, 4, 5, 6, 7], [18, 19, 27, 30, 31, 32]⟩,
            ⟨(some 27), .mv (.t 2), none, [], [], [18, 19, 20, 21, 22, 23, 24, 25, 26, 30, 31, 32]⟩,
            ⟨(some 28), .bin .sub (.t 26) (.t 27), none, [], [2, 3, 4, 5, 6, 7, 8, 9], [18, 19, 30, 31, 32]⟩,
            ⟨(some 29), .mx (.c (.int .i64 0)) (.t 28), none, [], [2, 3, 4, 5, 6, 7, 8, 9, 10], [18, 19, 30, 31, 32]⟩,
            ⟨(some 30), .nilc (.t 18), none, [], [0], [19, 20, 21, 22, 23, 24, 25, 26, 27, 28, 29]⟩,
            ⟨(some 31), .fld (.t 30) 0, none, [], [0, 12], [19, 20, 21, 22, 23, 24, 25, 26, 27, 28, 29]⟩,
            ⟨(some 32), .fld (.t 31) 2, none, [3, 18, 20, 21, 22, 23, 24, 25, 26, 27, 28, 30, 31], [0, 12, 13], [19, 20, 21, 22, 23, 24, 25, 26, 27, 28, 29]⟩,
            ⟨(some 33), .idxA (.t 32) (.t 19) 4 1, none, [19, 32], [0, 1, 2, 3, 4, 5, 6, 7, 8, 9, 10, 11, 12, 13, 14], []⟩,
            ⟨none, .store 1 (.t 33) (.t 29), none, [29, 33], [0, 1, 2, 3, 4, 5, 6, 7, 8, 9, 10, 11, 12, 13, 14, 15], []⟩])))
         (.reg [⟨(some 34), .bin .add (.t 15) (.c (.int .i64 1)), none, [15], [], []⟩,
          ⟨(some 15), .mv (.t 34), none, [34], [], []⟩])))))))
   (.seq (.reg [⟨(some 35), .mv (.t 0), none, [], [], []⟩,
     ⟨(some 36), .nilc (.t 35), none, [], [], []⟩,
     ⟨(some 37), .fld (.t 36) 0, none, [36], [], []⟩,
     ⟨(some 38), .fld (.t 37) 1, none, [37], [], []⟩,
     ⟨(some 39), .load none (.t 38), none, [38], [], []⟩,
     ⟨(some 40), .mv (.t 2), none, [2], [], []⟩,
     ⟨(some 41), .bin .mul (.c (.int .i64 60)) (.t 40), none, [40], [], []⟩,
     ⟨(some 42), .bin .add (.t 39) (.t 41), none, [39, 41], [], []⟩,
     ⟨(some 43), .nilc (.t 35), none, [35], [], []⟩,
     ⟨(some 44), .fld (.t 43) 0, none, [43], [], []⟩,
     ⟨(some 45), .fld (.t 44) 1, none, [44], [], []⟩,
     ⟨none, .store 1 (.t 45) (.t 42), none, [42, 45], [], []⟩])
    (.seq (.reg [⟨(some 46), .mv (.t 0), none, [], [], []⟩,
      ⟨(some 47), .nilc (.t 46), none, [46], [], []⟩,
      ⟨(some 48), .fld (.t 47) 0, none, [47], [], []⟩,
      ⟨(some 49), .fld (.t 48) 0, none, [48], [], []⟩,
      ⟨(some 50), .load none (.t 49), none, [49], [], []⟩,
      ⟨(some 51), .bin .eql (.t 50) (.c (.int .i64 2)), none, [50], [], []⟩,
      ⟨(some 52), .mv (.t 51), none, [51], [], []⟩,
      ⟨(some 53), .mv (.t 0), (some (52, true)), [], [], []⟩,
      ⟨(some 54), .nilc (.t 53), (some (52, true)), [53], [], []⟩,
      ⟨(some 55), .fld (.t 54) 0, (some (52, true)), [54], [], []⟩,
      ⟨(some 56), .load (some 6) (.t 55), (some (52, true)), [55], [], []⟩,
      ⟨(some 57), .callp 21 [.t 56], (some (52, true)), [56], [], []⟩,
      ⟨(some 58), .bin .eql (.t 57) (.c (.int .i64 0)), (some (52, true)), [57], [], []⟩,
      ⟨(some 59), .pick (.t 52) (.t 58) (.c (.bool false)), none, [52, 58], [], []⟩])
     (.cond (.t 59) (.reg [⟨(some 60), .mv (.t 0), none, [0], [], []⟩,
       ⟨(some 61), .nilc (.t 60), none, [60], [], []⟩,
       ⟨(some 62), .fld (.t 61) 0, none, [61], [], []⟩,
       ⟨(some 63), .fld (.t 62) 0, none, [62], [], []⟩,
       ⟨none, .store 1 (.t 63) (.c (.int .i64 1)), none, [63], [], []⟩])
      (.skip)))))⟩
theorem chk32 : chkF Tryd.prog 32 sf32 = true := by kernel_rfl

/-- (*custody/tamper.change).count -/
def sf33 : SF := ⟨35, [],
 .seq (.reg [⟨(some 3), .mv (.t 0), none, [], [], []⟩,
   ⟨(some 4), .nilc (.t 3), none, [3], [], []⟩,
   ⟨(some 5), .fld (.t 4) 6, none, [4], [], []⟩,
   ⟨(some 6), .load (some 2) (.t 5), none, [5], [], []⟩,
   ⟨(some 7), .callp 23 [.t 6], none, [6], [], []⟩])
  (.cond (.t 7) (.seq (.regP 10 [⟨(some 8), .mv (.t 0), none, [], [], [9, 10, 11, 12, 13, 14]⟩,
     ⟨(some 9), .mv (.t 0), none, [], [], [8, 15, 16, 17]⟩,
     ⟨(some 10), .nilc (.t 9), none, [], [1], [8, 15, 16, 17]⟩,
     ⟨(some 11), .fld (.t 10) 6, none, [], [1, 2], [8, 15, 16, 17]⟩,
     ⟨(some 12), .fld (.t 11) 0, none, [], [1, 2, 3], [8, 15, 16, 17]⟩,
     ⟨(some 13), .load none (.t 12), none, [], [1, 2, 3, 4], [8, 15, 16, 17]⟩,
     ⟨(some 14), .bin .sub (.t 13) (.c (.int .i64 1)), none, [], [1, 2, 3, 4, 5], [8, 15, 16, 17]⟩,
     ⟨(some 15), .nilc (.t 8), none, [], [0], [9, 10, 11, 12, 13, 14]⟩,
     ⟨(some 16), .fld (.t 15) 0, none, [], [0, 7], [9, 10, 11, 12, 13, 14]⟩,
     ⟨(some 17), .fld (.t 16) 2, none, [8, 9, 10, 11, 12, 13, 15, 16], [0, 7, 8], [9, 10, 11, 12, 13, 14]⟩,
     ⟨(some 18), .idxA (.t 17) (.t 14) 4 1, none, [14, 17], [0, 1, 2, 3, 4, 5, 6, 7, 8, 9], []⟩,
     ⟨(some 2), .mv (.t 18), none, [18], [0, 1, 2, 3, 4, 5, 6, 7, 8, 9, 10], []⟩])
    (.regP 15 [⟨(some 19), .mv (.t 2), none, [], [], [20, 21, 22, 23, 24, 25, 26, 27, 28, 29, 30, 31, 32, 33]⟩,
     ⟨(some 20), .mv (.t 2), none, [], [], [19, 23, 24, 25, 26, 27, 28, 29, 30, 31]⟩,
     ⟨(some 21), .nilc (.t 20), none, [], [1], [19, 23, 24, 25, 26, 27, 28, 29, 30, 31]⟩,
     ⟨(some 22), .load none (.t 21), none, [], [1, 2], [19, 23, 24, 25, 26, 27, 28, 29, 30, 31]⟩,
     ⟨(some 23), .mv (.t 0), none, [], [], [19, 20, 21, 22]⟩,
     ⟨(some 24), .nilc (.t 23), none, [], [4], [19, 20, 21, 22]⟩,
     ⟨(some 25), .fld (.t 24) 6, none, [], [4, 5], [19, 20, 21, 22]⟩,
     ⟨(some 26), .fld (.t 25) 0, none, [], [4, 5, 6], [19, 20, 21, 22]⟩,
     ⟨(some 27), .load none (.t 26), none, [], [4, 5, 6, 7], [19, 20, 21, 22]⟩,
     ⟨(some 28), .bin .sub (.t 27) (.c (.int .i64 1)), none, [], [4, 5, 6, 7, 8], [19, 20, 21, 22]⟩,
     ⟨(some 29), .idxA (.g 0) (.t 28) 4 3, none, [], [4, 5, 6, 7, 8, 9], [19, 20, 21, 22]⟩,
     ⟨(some 30), .fld (.t 29) 2, none, [], [4, 5, 6, 7, 8, 9, 10], [19, 20, 21, 22]⟩,
     ⟨(some 31), .load none (.t 30), none, [], [4, 5, 6, 7, 8, 9, 10, 11], [19, 20, 21, 22]⟩,
     ⟨(some 32), .bin .add (.t 22) (.t 31), none, [], [1, 2, 3, 4, 5, 6, 7, 8, 9, 10, 11, 12], [19]⟩,
     ⟨(some 33), .mn (.c (.int .i64 100)) (.t 32), none, [0, 2, 20, 21, 22, 23, 24, 25, 26, 27, 28, 29, 30, 31, 32], [1, 2, 3, 4, 5, 6, 7, 8, 9, 10, 11, 12, 13], [19]⟩,
     ⟨(some 34), .nilc (.t 19), none, [19], [0, 1, 2, 3, 4, 5, 6, 7, 8, 9, 10, 11, 12, 13, 14], []⟩,
     ⟨none, .store 1 (.t 34) (.t 33), none, [33, 34], [0, 1, 2, 3, 4, 5, 6, 7, 8, 9, 10, 11, 12, 13, 14, 15], []⟩]))
   (.skip))⟩
theorem chk33 : chkF Tryd.prog 33 sf33 = true := by kernel_rfl

/-- (*custody/tamper.change).escalate -/
def sf34 : SF := ⟨49, [],
 .seq (.reg [⟨(some 4), .mv (.t 0), none, [], [], []⟩,
   ⟨(some 5), .nilc (.t 4), none, [4], [], []⟩,
   ⟨(some 6), .fld (.t 5) 0, none, [5], [], []⟩,
   ⟨(some 7), .fld (.t 6) 0, none, [6], [], []⟩,
   ⟨(some 8), .load none (.t 7), none, [7], [], []⟩,
   ⟨(some 2), .mv (.t 8), none, [8], [], []⟩])
  (.seq (.seq (.reg [⟨(some 9), .mv (.t 0), none, [], [], []⟩,
     ⟨(some 10), .nilc (.t 9), none, [9], [], []⟩,
     ⟨(some 11), .fld (.t 10) 0, none, [10], [], []⟩,
     ⟨(some 12), .load (some 6) (.t 11), none, [11], [], []⟩,
     ⟨(some 13), .callp 21 [.t 12], none, [12], [], []⟩,
     ⟨(some 3), .mv (.t 13), none, [13], [], []⟩])
    (.block 0 (.seq (.reg [⟨(some 15), .mv (.t 0), none, [], [], []⟩,
       ⟨(some 16), .nilc (.t 15), none, [15], [], []⟩,
       ⟨(some 17), .fld (.t 16) 6, none, [16], [], []⟩,
       ⟨(some 18), .load (some 2) (.t 17), none, [17], [], []⟩,
       ⟨(some 19), .callp 23 [.t 18], none, [18], [], []⟩,
       ⟨(some 20), .un .not (.t 19), none, [19], [], []⟩,
       ⟨(some 14), .mv (.t 20), none, [20], [], []⟩])
      (.cond (.t 14) (.ret)
       (.seq (.reg [⟨(some 22), .mv (.t 0), none, [], [], []⟩,
         ⟨(some 23), .nilc (.t 22), none, [22], [], []⟩,
         ⟨(some 24), .fld (.t 23) 6, none, [23], [], []⟩,
         ⟨(some 25), .fld (.t 24) 0, none, [24], [], []⟩,
         ⟨(some 26), .load none (.t 25), none, [25], [], []⟩,
         ⟨(some 27), .bin .eql (.t 26) (.c (.int .i64 1)), none, [26], [], []⟩,
         ⟨(some 28), .mv (.t 27), none, [27], [], []⟩,
         ⟨(some 29), .mv (.t 3), (some (28, false)), [], [], []⟩,
         ⟨(some 30), .bin .geq (.t 29) (.c (.int .i64 12)), (some (28, false)), [29], [], []⟩,
         ⟨(some 31), .pick (.t 28) (.c (.bool true)) (.t 30), none, [28, 30], [], []⟩,
         ⟨(some 21), .mv (.t 31), none, [31], [], []⟩])
        (.cond (.t 21) (.reg [⟨(some 2), .mv (.c (.int .i64 4)), none, [], [], []⟩])
         (.seq (.reg [⟨(some 33), .mv (.t 3), none, [], [], []⟩,
           ⟨(some 34), .bin .geq (.t 33) (.c (.int .i64 6)), none, [33], [], []⟩,
           ⟨(some 32), .mv (.t 34), none, [34], [], []⟩])
          (.cond (.t 32) (.reg [⟨(some 2), .mv (.c (.int .i64 3)), none, [], [], []⟩])
           (.seq (.reg [⟨(some 36), .mv (.t 3), none, [3], [], []⟩,
             ⟨(some 37), .bin .geq (.t 36) (.c (.int .i64 1)), none, [36], [], []⟩,
             ⟨(some 35), .mv (.t 37), none, [37], [], []⟩])
            (.cond (.t 35) (.reg [⟨(some 2), .mv (.c (.int .i64 2)), none, [], [], []⟩])
             (.skip)))))))))))
   (.reg [⟨(some 38), .mv (.t 0), none, [], [], []⟩,
    ⟨(some 39), .mv (.t 0), none, [0], [], []⟩,
    ⟨(some 40), .nilc (.t 39), none, [39], [], []⟩,
    ⟨(some 41), .fld (.t 40) 0, none, [40], [], []⟩,
    ⟨(some 42), .fld (.t 41) 0, none, [41], [], []⟩,
    ⟨(some 43), .load none (.t 42), none, [42], [], []⟩,
    ⟨(some 44), .mv (.t 2), none, [2], [], []⟩,
    ⟨(some 45), .mx (.t 43) (.t 44), none, [43, 44], [], []⟩,
    ⟨(some 46), .nilc (.t 38), none, [38], [], []⟩,
    ⟨(some 47), .fld (.t 46) 0, none, [46], [], []⟩,
    ⟨(some 48), .fld (.t 47) 0, none, [47], [], []⟩,
    ⟨none, .store 1 (.t 48) (.t 45), none, [45, 48], [], []⟩]))⟩
theorem chk34 : chkF Tryd.prog 34 sf34 = true := by kernel_rfl

/-- custody/tamper.known -/
def sf35 : SF := ⟨11, [.t 2],
 .seq (.reg [⟨(some 1), .box 34 (.t 0), none, [0], [], []⟩,
   ⟨(some 2), .mv (.c (.bool false)), none, [2], [], []⟩])
  (.seq (.reg [⟨(some 3), .fld (.t 1) 0, none, [], [], []⟩,
    ⟨(some 4), .load none (.t 3), none, [3], [], []⟩,
    ⟨(some 5), .bin .geq (.t 4) (.c (.int .i64 1)), none, [4], [], []⟩,
    ⟨(some 6), .mv (.t 5), none, [5], [], []⟩,
    ⟨(some 7), .fld (.t 1) 0, (some (6, true)), [1], [], []⟩,
    ⟨(some 8), .load none (.t 7), (some (6, true)), [7], [], []⟩,
    ⟨(some 9), .bin .leq (.t 8) (.c (.int .i64 4)), (some (6, true)), [8], [], []⟩,
    ⟨(some 10), .pick (.t 6) (.t 9) (.c (.bool false)), none, [6, 9], [], []⟩,
    ⟨(some 2), .mv (.t 10), none, [10], [], []⟩])
   (.ret))⟩
theorem chk35 : chkF Tryd.prog 35 sf35 = true := by kernel_rfl

end Go.Proofs.YtflkcganpgjkkaaDoor.Sf
