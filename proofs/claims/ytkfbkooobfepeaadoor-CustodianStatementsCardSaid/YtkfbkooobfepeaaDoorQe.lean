/- The proof, part Qe: the texts SfC, EngRa, EngRb, EngRc, TabA, SanA, EngXa, HasA, HasB, HasC, HasD, HasE, HasF, EngRd, SanT, EngY, EngZ, EngZa, EngZb, EngZc, EngZe, LawA, EngZd. -/
import Derived.Test.YtkfbkooobfepeaaDoorQd
import Derived.ChangeSame
import Derived.ChangeArms
import Derived.Lib.LaidTab
/- The functions of the program that are walked through, written out for the engine (printed by wip/tools/Print.lean from the dump), and the kernel's check of each against the program. -/
namespace Go.Proofs.YtkfbkooobfepeaaDoor.Sf
open Go Go.Sx
set_option maxRecDepth 100000
set_option linter.unusedSimpArgs false
set_option linter.unusedVariables false

/-- custody/wire.count -/
def sf69 : SF := ⟨31, [.t 4, .t 5, .t 6],
 .seq (.reg [⟨(some 4), .mv (.c (.int .i64 0)), none, [4], [], []⟩,
   ⟨(some 5), .mv (.c (.int .i64 0)), none, [5], [], []⟩,
   ⟨(some 6), .mv (.c (.int .i64 0)), none, [6], [], []⟩])
  (.seq (.reg [⟨(some 8), .mv (.t 0), none, [], [], []⟩,
    ⟨(some 9), .call 59 [.t 8], none, [8], [], []⟩,
    ⟨(some 7), .mv (.t 9), none, [9], [], []⟩,
    ⟨(some 10), .ext (.t 7) 0, none, [], [], []⟩,
    ⟨(some 11), .ext (.t 7) 1, none, [], [], []⟩,
    ⟨(some 12), .ext (.t 7) 2, none, [7], [], []⟩,
    ⟨(some 4), .mv (.t 10), none, [10], [], []⟩,
    ⟨(some 5), .mv (.t 11), none, [11], [], []⟩,
    ⟨(some 6), .mv (.t 12), none, [12], [], []⟩])
   (.seq (.block 0 (.seq (.reg [⟨(some 14), .mv (.t 6), none, [], [], []⟩,
       ⟨(some 15), .bin .neq (.t 14) (.c (.int .i64 0)), none, [14], [], []⟩,
       ⟨(some 13), .mv (.t 15), none, [15], [], []⟩])
      (.cond (.t 13) (.skip)
       (.seq (.reg [⟨(some 17), .mv (.t 4), none, [], [], []⟩,
         ⟨(some 18), .bin .lss (.t 17) (.c (.int .i64 0)), none, [17], [], []⟩,
         ⟨(some 16), .mv (.t 18), none, [18], [], []⟩])
        (.cond (.t 16) (.reg [⟨(some 6), .mv (.c (.int .i64 6)), none, [], [], []⟩])
         (.seq (.reg [⟨(some 20), .mv (.t 4), none, [], [], []⟩,
           ⟨(some 21), .mv (.t 0), none, [0], [], []⟩,
           ⟨(some 22), .len false (.t 21), none, [21], [], []⟩,
           ⟨(some 23), .mv (.t 5), none, [], [], []⟩,
           ⟨(some 24), .bin .sub (.t 22) (.t 23), none, [22, 23], [], []⟩,
           ⟨(some 25), .mv (.t 1), none, [1], [], []⟩,
           ⟨(some 26), .bin .quo (.t 24) (.t 25), none, [24, 25], [], []⟩,
           ⟨(some 27), .bin .gtr (.t 20) (.t 26), none, [20, 26], [], []⟩,
           ⟨(some 19), .mv (.t 27), none, [27], [], []⟩])
          (.cond (.t 19) (.reg [⟨(some 6), .mv (.c (.int .i64 5)), none, [], [], []⟩])
           (.skip))))))))
    (.seq (.reg [⟨(some 28), .mv (.t 4), none, [4], [], []⟩,
      ⟨(some 29), .mv (.t 5), none, [5], [], []⟩,
      ⟨(some 30), .mv (.t 6), none, [6], [], []⟩,
      ⟨(some 4), .mv (.t 28), none, [28], [], []⟩,
      ⟨(some 5), .mv (.t 29), none, [29], [], []⟩,
      ⟨(some 6), .mv (.t 30), none, [30], [], []⟩])
     (.ret))))⟩
theorem chk69 : chkF Tryd.prog 69 sf69 = true := by kernel_rfl
/-- custody/wire.reader -/
def sf70 : SF := ⟨6, [.t 4],
 .seq (.reg [⟨(some 2), .box 56 (.t 0), none, [0], [], []⟩,
   ⟨(some 3), .box 3 (.t 1), none, [1], [], []⟩,
   ⟨(some 4), .mv (.c (.val .nilFunc)), none, [4], [], []⟩])
  (.seq (.reg [⟨(some 5), .mkfn 85 [] [.t 2, .t 3], none, [2, 3], [], []⟩,
    ⟨(some 4), .mv (.t 5), none, [5], [], []⟩])
   (.ret))⟩
theorem chk70 : chkF Tryd.prog 70 sf70 = true := by kernel_rfl
/-- custody/hash.compress -/
def sf73 : SF := ⟨116, [.c 4 (some 8)],
 .seq (.reg [⟨(some 2), .box 83 (.t 0), none, [0], [], []⟩,
   ⟨(some 4), .new 83 [.int .u32 0, .int .u32 0, .int .u32 0, .int .u32 0, .int .u32 0, .int .u32 0, .int .u32 0, .int .u32 0], none, [], [], []⟩])
  (.seq (.reg [⟨(some 13), .mv (.t 1), none, [1], [], []⟩,
    ⟨(some 14), .call 86 [.t 13], none, [13], [], []⟩,
    ⟨(some 5), .new 121 [.int .u32 0, .int .u32 0, .int .u32 0, .int .u32 0, .int .u32 0, .int .u32 0, .int .u32 0, .int .u32 0, .int .u32 0, .int .u32 0, .int .u32 0, .int .u32 0, .int .u32 0, .int .u32 0, .int .u32 0, .int .u32 0, .int .u32 0, .int .u32 0, .int .u32 0, .int .u32 0, .int .u32 0, .int .u32 0, .int .u32 0, .int .u32 0, .int .u32 0, .int .u32 0, .int .u32 0, .int .u32 0, .int .u32 0, .int .u32 0, .int .u32 0, .int .u32 0, .int .u32 0, .int .u32 0, .int .u32 0, .int .u32 0, .int .u32 0, .int .u32 0, .int .u32 0, .int .u32 0, .int .u32 0, .int .u32 0, .int .u32 0, .int .u32 0, .int .u32 0, .int .u32 0, .int .u32 0, .int .u32 0, .int .u32 0, .int .u32 0, .int .u32 0, .int .u32 0, .int .u32 0, .int .u32 0, .int .u32 0, .int .u32 0, .int .u32 0, .int .u32 0, .int .u32 0, .int .u32 0, .int .u32 0, .int .u32 0, .int .u32 0, .int .u32 0], none, [], [], []⟩,
    ⟨none, .store 64 (.t 5) (.t 14), none, [14], [], []⟩])
   (.seq (.regW 9 [⟨(some 15), .slcA 8 1 (.t 2) none (some (.c (.int .i64 4))), none, [], [], [6, 7, 18, 19, 20]⟩,
     ⟨(some 16), .arrAt 4 (.t 15), none, [], [0], [6, 7, 18, 19, 20]⟩,
     ⟨(some 17), .load (some 4) (.t 16), none, [], [0, 1], [6, 7, 18, 19, 20]⟩,
     ⟨(some 18), .slcA 8 1 (.t 2) (some (.c (.int .i64 4))) none, none, [], [], [6, 7, 15, 16, 17]⟩,
     ⟨(some 19), .arrAt 4 (.t 18), none, [], [3], [6, 7, 15, 16, 17]⟩,
     ⟨(some 20), .load (some 4) (.t 19), none, [], [3, 4], [6, 7, 15, 16, 17]⟩,
     ⟨(some 6), .new 123 [.int .u32 0, .int .u32 0, .int .u32 0, .int .u32 0], none, [], [], [7, 15, 16, 17, 18, 19, 20]⟩,
     ⟨(some 7), .new 123 [.int .u32 0, .int .u32 0, .int .u32 0, .int .u32 0], none, [], [], [6, 15, 16, 17, 18, 19, 20]⟩,
     ⟨none, .store 4 (.t 6) (.t 17), none, [15, 16, 17, 18, 19], [0, 1, 2, 6, 7], [18, 19, 20]⟩,
     ⟨none, .store 4 (.t 7) (.t 20), none, [20], [0, 1, 2, 3, 4, 5, 6, 7, 8], []⟩])
    (.seq (.seq (.reg [⟨(some 21), .load (some 64) (.g 0), none, [], [], []⟩,
       ⟨(some 22), .mv (.c (.int .i64 0)), none, [], [], []⟩])
      (.block 0 (.loop (.seq (.reg [⟨(some 23), .bin .lss (.t 22) (.c (.int .i64 64)), none, [], [], []⟩])
         (.seq (.cond (.t 23) (.skip)
           (.exit 0))
          (.seq (.block 1 (.seq (.reg [⟨(some 24), .mv (.t 22), none, [], [], []⟩,
              ⟨(some 25), .idxV (.t 21) (.t 22) 64 1 false, none, [], [], []⟩,
              ⟨(some 8), .mv (.t 24), none, [24], [], []⟩,
              ⟨(some 9), .mv (.t 25), none, [25], [], []⟩])
             (.seq (.regP 24 [⟨(some 26), .idxA (.t 7) (.c (.int .i64 3)) 4 1, none, [], [], [28, 29, 30, 32, 33, 34, 35, 36, 37, 38, 39, 40, 41, 42, 43, 45, 47, 48, 49]⟩,
               ⟨(some 27), .load none (.t 26), none, [], [0], [28, 29, 30, 32, 33, 34, 35, 36, 37, 38, 39, 40, 41, 42, 43, 45, 47, 48, 49]⟩,
               ⟨(some 28), .idxA (.t 7) (.c (.int .i64 0)) 4 1, none, [], [], [26, 27, 32, 33, 34, 35, 36, 37, 38, 39, 40, 41, 42, 43, 45, 47, 48, 49]⟩,
               ⟨(some 29), .load none (.t 28), none, [], [2], [26, 27, 32, 33, 34, 35, 36, 37, 38, 39, 40, 41, 42, 43, 45, 47, 48, 49]⟩,
               ⟨(some 30), .callp 87 [.t 29, .c (.int .i64 6), .c (.int .i64 11), .c (.int .i64 25)], none, [], [2, 3], [26, 27, 32, 33, 34, 35, 36, 37, 38, 39, 40, 41, 42, 43, 45, 47, 48, 49]⟩,
               ⟨(some 31), .bin .add (.t 27) (.t 30), none, [], [0, 1, 2, 3, 4], [32, 33, 34, 35, 36, 37, 38, 39, 40, 41, 42, 43, 45, 47, 48, 49]⟩,
               ⟨(some 32), .idxA (.t 7) (.c (.int .i64 0)) 4 1, none, [], [], [26, 27, 28, 29, 30, 31, 34, 35, 37, 38, 39, 40, 41, 42, 45, 47, 48, 49]⟩,
               ⟨(some 33), .load none (.t 32), none, [], [6], [26, 27, 28, 29, 30, 31, 34, 35, 37, 38, 39, 40, 41, 42, 45, 47, 48, 49]⟩,
               ⟨(some 34), .idxA (.t 7) (.c (.int .i64 1)) 4 1, none, [], [], [26, 27, 28, 29, 30, 31, 32, 33, 37, 38, 39, 40, 41, 42, 45, 47, 48, 49]⟩,
               ⟨(some 35), .load none (.t 34), none, [], [8], [26, 27, 28, 29, 30, 31, 32, 33, 37, 38, 39, 40, 41, 42, 45, 47, 48, 49]⟩,
               ⟨(some 36), .bin .and (.t 33) (.t 35), none, [], [6, 7, 8, 9], [26, 27, 28, 29, 30, 31, 37, 38, 39, 40, 41, 42, 45, 47, 48, 49]⟩,
               ⟨(some 37), .idxA (.t 7) (.c (.int .i64 0)) 4 1, none, [], [], [26, 27, 28, 29, 30, 31, 32, 33, 34, 35, 36, 40, 41, 45, 47, 48, 49]⟩,
               ⟨(some 38), .load none (.t 37), none, [], [11], [26, 27, 28, 29, 30, 31, 32, 33, 34, 35, 36, 40, 41, 45, 47, 48, 49]⟩,
               ⟨(some 39), .un .xor (.t 38), none, [], [11, 12], [26, 27, 28, 29, 30, 31, 32, 33, 34, 35, 36, 40, 41, 45, 47, 48, 49]⟩,
               ⟨(some 40), .idxA (.t 7) (.c (.int .i64 2)) 4 1, none, [], [], [26, 27, 28, 29, 30, 31, 32, 33, 34, 35, 36, 37, 38, 39, 45, 47, 48, 49]⟩,
               ⟨(some 41), .load none (.t 40), none, [], [14], [26, 27, 28, 29, 30, 31, 32, 33, 34, 35, 36, 37, 38, 39, 45, 47, 48, 49]⟩,
               ⟨(some 42), .bin .and (.t 39) (.t 41), none, [], [11, 12, 13, 14, 15], [26, 27, 28, 29, 30, 31, 32, 33, 34, 35, 36, 45, 47, 48, 49]⟩,
               ⟨(some 43), .bin .xor (.t 36) (.t 42), none, [], [6, 7, 8, 9, 10, 11, 12, 13, 14, 15, 16], [26, 27, 28, 29, 30, 31, 45, 47, 48, 49]⟩,
               ⟨(some 44), .bin .add (.t 31) (.t 43), none, [], [0, 1, 2, 3, 4, 5, 6, 7, 8, 9, 10, 11, 12, 13, 14, 15, 16, 17], [45, 47, 48, 49]⟩,
               ⟨(some 45), .mv (.t 9), none, [], [], [26, 27, 28, 29, 30, 31, 32, 33, 34, 35, 36, 37, 38, 39, 40, 41, 42, 43, 44, 47, 48, 49]⟩,
               ⟨(some 46), .bin .add (.t 44) (.t 45), none, [], [0, 1, 2, 3, 4, 5, 6, 7, 8, 9, 10, 11, 12, 13, 14, 15, 16, 17, 18, 19], [47, 48, 49]⟩,
               ⟨(some 47), .mv (.t 8), none, [], [], [26, 27, 28, 29, 30, 31, 32, 33, 34, 35, 36, 37, 38, 39, 40, 41, 42, 43, 44, 45, 46]⟩,
               ⟨(some 48), .idxA (.t 5) (.t 47) 64 1, none, [], [21], [26, 27, 28, 29, 30, 31, 32, 33, 34, 35, 36, 37, 38, 39, 40, 41, 42, 43, 44, 45, 46]⟩,
               ⟨(some 49), .load none (.t 48), none, [8, 9, 26, 27, 28, 29, 30, 31, 32, 33, 34, 35, 36, 37, 38, 39, 40, 41, 42, 43, 44, 45, 47, 48], [21, 22], [26, 27, 28, 29, 30, 31, 32, 33, 34, 35, 36, 37, 38, 39, 40, 41, 42, 43, 44, 45, 46]⟩,
               ⟨(some 50), .bin .add (.t 46) (.t 49), none, [46, 49], [0, 1, 2, 3, 4, 5, 6, 7, 8, 9, 10, 11, 12, 13, 14, 15, 16, 17, 18, 19, 20, 21, 22, 23], []⟩,
               ⟨(some 10), .mv (.t 50), none, [50], [0, 1, 2, 3, 4, 5, 6, 7, 8, 9, 10, 11, 12, 13, 14, 15, 16, 17, 18, 19, 20, 21, 22, 23, 24], []⟩])
              (.seq (.regP 20 [⟨(some 51), .idxA (.t 6) (.c (.int .i64 0)) 4 1, none, [], [], [54, 55, 56, 57, 58, 59, 60, 61, 62, 63, 64, 65, 66, 67, 68, 69, 70]⟩,
                ⟨(some 52), .load none (.t 51), none, [], [0], [54, 55, 56, 57, 58, 59, 60, 61, 62, 63, 64, 65, 66, 67, 68, 69, 70]⟩,
                ⟨(some 53), .callp 87 [.t 52, .c (.int .i64 2), .c (.int .i64 13), .c (.int .i64 22)], none, [], [0, 1], [54, 55, 56, 57, 58, 59, 60, 61, 62, 63, 64, 65, 66, 67, 68, 69, 70]⟩,
                ⟨(some 54), .idxA (.t 6) (.c (.int .i64 0)) 4 1, none, [], [], [51, 52, 53, 56, 57, 59, 60, 61, 62, 63, 65, 66, 67, 68, 69]⟩,
                ⟨(some 55), .load none (.t 54), none, [], [3], [51, 52, 53, 56, 57, 59, 60, 61, 62, 63, 65, 66, 67, 68, 69]⟩,
                ⟨(some 56), .idxA (.t 6) (.c (.int .i64 1)) 4 1, none, [], [], [51, 52, 53, 54, 55, 59, 60, 61, 62, 63, 65, 66, 67, 68, 69]⟩,
                ⟨(some 57), .load none (.t 56), none, [], [5], [51, 52, 53, 54, 55, 59, 60, 61, 62, 63, 65, 66, 67, 68, 69]⟩,
                ⟨(some 58), .bin .and (.t 55) (.t 57), none, [], [3, 4, 5, 6], [51, 52, 53, 59, 60, 61, 62, 63, 65, 66, 67, 68, 69]⟩,
                ⟨(some 59), .idxA (.t 6) (.c (.int .i64 0)) 4 1, none, [], [], [51, 52, 53, 54, 55, 56, 57, 58, 61, 62, 65, 66, 67, 68, 69]⟩,
                ⟨(some 60), .load none (.t 59), none, [], [8], [51, 52, 53, 54, 55, 56, 57, 58, 61, 62, 65, 66, 67, 68, 69]⟩,
                ⟨(some 61), .idxA (.t 6) (.c (.int .i64 2)) 4 1, none, [], [], [51, 52, 53, 54, 55, 56, 57, 58, 59, 60, 65, 66, 67, 68, 69]⟩,
                ⟨(some 62), .load none (.t 61), none, [], [10], [51, 52, 53, 54, 55, 56, 57, 58, 59, 60, 65, 66, 67, 68, 69]⟩,
                ⟨(some 63), .bin .and (.t 60) (.t 62), none, [], [8, 9, 10, 11], [51, 52, 53, 54, 55, 56, 57, 58, 65, 66, 67, 68, 69]⟩,
                ⟨(some 64), .bin .xor (.t 58) (.t 63), none, [], [3, 4, 5, 6, 7, 8, 9, 10, 11, 12], [51, 52, 53, 65, 66, 67, 68, 69]⟩,
                ⟨(some 65), .idxA (.t 6) (.c (.int .i64 1)) 4 1, none, [], [], [51, 52, 53, 54, 55, 56, 57, 58, 59, 60, 61, 62, 63, 64, 67, 68]⟩,
                ⟨(some 66), .load none (.t 65), none, [], [14], [51, 52, 53, 54, 55, 56, 57, 58, 59, 60, 61, 62, 63, 64, 67, 68]⟩,
                ⟨(some 67), .idxA (.t 6) (.c (.int .i64 2)) 4 1, none, [], [], [51, 52, 53, 54, 55, 56, 57, 58, 59, 60, 61, 62, 63, 64, 65, 66]⟩,
                ⟨(some 68), .load none (.t 67), none, [], [16], [51, 52, 53, 54, 55, 56, 57, 58, 59, 60, 61, 62, 63, 64, 65, 66]⟩,
                ⟨(some 69), .bin .and (.t 66) (.t 68), none, [], [14, 15, 16, 17], [51, 52, 53, 54, 55, 56, 57, 58, 59, 60, 61, 62, 63, 64]⟩,
                ⟨(some 70), .bin .xor (.t 64) (.t 69), none, [51, 52, 54, 55, 56, 57, 58, 59, 60, 61, 62, 63, 64, 65, 66, 67, 68, 69], [3, 4, 5, 6, 7, 8, 9, 10, 11, 12, 13, 14, 15, 16, 17, 18], [51, 52, 53]⟩,
                ⟨(some 71), .bin .add (.t 53) (.t 70), none, [53, 70], [0, 1, 2, 3, 4, 5, 6, 7, 8, 9, 10, 11, 12, 13, 14, 15, 16, 17, 18, 19], []⟩,
                ⟨(some 11), .mv (.t 71), none, [71], [0, 1, 2, 3, 4, 5, 6, 7, 8, 9, 10, 11, 12, 13, 14, 15, 16, 17, 18, 19, 20], []⟩])
               (.seq (.reg [⟨(some 72), .idxA (.t 6) (.c (.int .i64 3)) 4 1, none, [], [], []⟩,
                 ⟨(some 73), .load none (.t 72), none, [72], [], []⟩,
                 ⟨(some 74), .mv (.t 10), none, [], [], []⟩,
                 ⟨(some 75), .bin .add (.t 73) (.t 74), none, [73, 74], [], []⟩,
                 ⟨(some 76), .idxA (.t 7) (.c (.int .i64 0)) 4 1, none, [], [], []⟩,
                 ⟨(some 77), .load none (.t 76), none, [76], [], []⟩,
                 ⟨(some 78), .idxA (.t 7) (.c (.int .i64 1)) 4 1, none, [], [], []⟩,
                 ⟨(some 79), .load none (.t 78), none, [78], [], []⟩,
                 ⟨(some 80), .idxA (.t 7) (.c (.int .i64 2)) 4 1, none, [], [], []⟩,
                 ⟨(some 81), .load none (.t 80), none, [80], [], []⟩,
                 ⟨(some 82), .build [.int .u32 0, .int .u32 0, .int .u32 0, .int .u32 0] [(0, 1, .t 75), (1, 1, .t 77), (2, 1, .t 79), (3, 1, .t 81)], none, [75, 77, 79, 81], [], []⟩,
                 ⟨none, .store 4 (.t 7) (.t 82), none, [82], [], []⟩])
                (.reg [⟨(some 83), .mv (.t 10), none, [10], [], []⟩,
                 ⟨(some 84), .mv (.t 11), none, [11], [], []⟩,
                 ⟨(some 85), .bin .add (.t 83) (.t 84), none, [83, 84], [], []⟩,
                 ⟨(some 86), .idxA (.t 6) (.c (.int .i64 0)) 4 1, none, [], [], []⟩,
                 ⟨(some 87), .load none (.t 86), none, [86], [], []⟩,
                 ⟨(some 88), .idxA (.t 6) (.c (.int .i64 1)) 4 1, none, [], [], []⟩,
                 ⟨(some 89), .load none (.t 88), none, [88], [], []⟩,
                 ⟨(some 90), .idxA (.t 6) (.c (.int .i64 2)) 4 1, none, [], [], []⟩,
                 ⟨(some 91), .load none (.t 90), none, [90], [], []⟩,
                 ⟨(some 92), .build [.int .u32 0, .int .u32 0, .int .u32 0, .int .u32 0] [(0, 1, .t 85), (1, 1, .t 87), (2, 1, .t 89), (3, 1, .t 91)], none, [85, 87, 89, 91], [], []⟩,
                 ⟨none, .store 4 (.t 6) (.t 92), none, [92], [], []⟩]))))))
           (.reg [⟨(some 93), .bin .add (.t 22) (.c (.int .i64 1)), none, [22], [], []⟩,
            ⟨(some 22), .mv (.t 93), none, [93], [], []⟩])))))))
     (.seq (.seq (.reg [⟨(some 94), .mv (.c (.int .i64 0)), none, [], [], []⟩])
       (.block 2 (.loop (.seq (.reg [⟨(some 95), .bin .lss (.t 94) (.c (.int .i64 4)), none, [], [], []⟩])
          (.seq (.cond (.t 95) (.skip)
            (.exit 2))
           (.seq (.block 3 (.seq (.reg [⟨(some 96), .mv (.t 94), none, [], [], []⟩,
               ⟨(some 12), .mv (.t 96), none, [96], [], []⟩])
              (.seq (.regP 6 [⟨(some 97), .mv (.t 12), none, [], [], [100, 101, 102]⟩,
                ⟨(some 98), .idxA (.t 2) (.t 97) 8 1, none, [], [0], [100, 101, 102]⟩,
                ⟨(some 99), .load none (.t 98), none, [], [0, 1], [100, 101, 102]⟩,
                ⟨(some 100), .mv (.t 12), none, [], [], [97, 98, 99]⟩,
                ⟨(some 101), .idxA (.t 6) (.t 100) 4 1, none, [], [3], [97, 98, 99]⟩,
                ⟨(some 102), .load none (.t 101), none, [98, 100, 101], [3, 4], [97, 98, 99]⟩,
                ⟨(some 103), .bin .add (.t 99) (.t 102), none, [99, 102], [0, 1, 2, 3, 4, 5], []⟩,
                ⟨(some 104), .idxA (.t 2) (.t 97) 8 1, none, [97], [0, 1, 2, 3, 4, 5, 6], []⟩,
                ⟨none, .store 1 (.t 104) (.t 103), none, [103, 104], [0, 1, 2, 3, 4, 5, 6, 7], []⟩])
               (.regP 7 [⟨(some 105), .mv (.t 12), none, [], [], [109, 110, 111]⟩,
                ⟨(some 106), .bin .add (.t 105) (.c (.int .i64 4)), none, [], [0], [109, 110, 111]⟩,
                ⟨(some 107), .idxA (.t 2) (.t 106) 8 1, none, [], [0, 1], [109, 110, 111]⟩,
                ⟨(some 108), .load none (.t 107), none, [], [0, 1, 2], [109, 110, 111]⟩,
                ⟨(some 109), .mv (.t 12), none, [], [], [105, 106, 107, 108]⟩,
                ⟨(some 110), .idxA (.t 7) (.t 109) 4 1, none, [], [4], [105, 106, 107, 108]⟩,
                ⟨(some 111), .load none (.t 110), none, [12, 105, 107, 109, 110], [4, 5], [105, 106, 107, 108]⟩,
                ⟨(some 112), .bin .add (.t 108) (.t 111), none, [108, 111], [0, 1, 2, 3, 4, 5, 6], []⟩,
                ⟨(some 113), .idxA (.t 2) (.t 106) 8 1, none, [106], [0, 1, 2, 3, 4, 5, 6, 7], []⟩,
                ⟨none, .store 1 (.t 113) (.t 112), none, [112, 113], [0, 1, 2, 3, 4, 5, 6, 7, 8], []⟩]))))
            (.reg [⟨(some 114), .bin .add (.t 94) (.c (.int .i64 1)), none, [94], [], []⟩,
             ⟨(some 94), .mv (.t 114), none, [114], [], []⟩])))))))
      (.seq (.reg [⟨(some 115), .load (some 8) (.t 2), none, [2], [], []⟩,
        ⟨none, .store 8 (.t 4) (.t 115), none, [115], [], []⟩])
       (.ret))))))⟩
theorem chk73 : chkF Tryd.prog 73 sf73 = true := by kernel_rfl
/-- custody/treesig.reader$1 -/
def sf75 : SF := ⟨14, [],
 .seq (.seq (.reg [⟨(some 6), .load none (.t 2), none, [], [], []⟩,
    ⟨(some 7), .bin .eql (.t 6) (.c (.int .i64 0)), none, [6], [], []⟩])
   (.cond (.t 7) (.reg [⟨(some 8), .mv (.t 1), none, [1], [], []⟩,
     ⟨none, .store 1 (.t 2) (.t 8), none, [8], [], []⟩])
    (.skip)))
  (.seq (.reg [⟨(some 9), .load none (.t 2), none, [2], [], []⟩,
    ⟨(some 10), .bin .eql (.t 9) (.c (.int .i64 0)), none, [9], [], []⟩])
   (.cond (.t 10) (.reg [⟨(some 11), .load none (.t 3), none, [], [], []⟩,
     ⟨(some 12), .mv (.t 0), none, [0], [], []⟩,
     ⟨(some 13), .slcS 1 (.t 11) (some (.t 12)) none, none, [11, 12], [], []⟩,
     ⟨none, .store 1 (.t 3) (.t 13), none, [3, 13], [], []⟩])
    (.skip)))⟩
theorem chk75 : chkF Tryd.prog 75 sf75 = true := by kernel_rfl
/-- custody/treesig.reader$2 -/
def sf76 : SF := ⟨6, [.t 2, .t 3],
 .seq (.reg [⟨(some 2), .mv (.c (.val (.slice none 0 0))), none, [2], [], []⟩,
   ⟨(some 3), .mv (.c (.int .i64 0)), none, [3], [], []⟩])
  (.seq (.regP 3 [⟨(some 4), .load none (.t 0), none, [], [], [5]⟩,
    ⟨(some 5), .load none (.t 1), none, [], [], [2, 4]⟩,
    ⟨(some 2), .mv (.t 4), none, [0, 1, 4], [0], [5]⟩,
    ⟨(some 3), .mv (.t 5), none, [5], [0, 1, 2], []⟩])
   (.ret))⟩
theorem chk76 : chkF Tryd.prog 76 sf76 = true := by kernel_rfl
/-- custody/wire.reader$1 -/
def sf85 : SF := ⟨22, [.t 2, .t 3, .t 4],
 .seq (.reg [⟨(some 2), .mv (.c (.int .i64 0)), none, [2], [], []⟩,
   ⟨(some 3), .mv (.c (.int .i64 0)), none, [3], [], []⟩,
   ⟨(some 4), .mv (.c (.int .i64 0)), none, [4], [], []⟩])
  (.seq (.reg [⟨(some 9), .load none (.t 0), none, [0], [], []⟩,
    ⟨(some 10), .load none (.t 1), none, [], [], []⟩,
    ⟨(some 11), .slcS 1 (.t 9) (some (.t 10)) none, none, [9, 10], [], []⟩,
    ⟨(some 12), .call 59 [.t 11], none, [11], [], []⟩,
    ⟨(some 8), .mv (.t 12), none, [12], [], []⟩,
    ⟨(some 13), .ext (.t 8) 0, none, [], [], []⟩,
    ⟨(some 14), .ext (.t 8) 1, none, [], [], []⟩,
    ⟨(some 15), .ext (.t 8) 2, none, [8], [], []⟩,
    ⟨(some 5), .mv (.t 13), none, [13], [], []⟩,
    ⟨(some 6), .mv (.t 14), none, [14], [], []⟩,
    ⟨(some 7), .mv (.t 15), none, [15], [], []⟩])
   (.seq (.reg [⟨(some 16), .load none (.t 1), none, [], [], []⟩,
     ⟨(some 17), .mv (.t 6), none, [6], [], []⟩,
     ⟨(some 18), .bin .add (.t 16) (.t 17), none, [16, 17], [], []⟩,
     ⟨none, .store 1 (.t 1) (.t 18), none, [18], [], []⟩])
    (.seq (.regP 5 [⟨(some 19), .mv (.t 5), none, [], [], [20, 21]⟩,
      ⟨(some 20), .load none (.t 1), none, [], [], [2, 19, 21]⟩,
      ⟨(some 21), .mv (.t 7), none, [], [], [2, 3, 19, 20]⟩,
      ⟨(some 2), .mv (.t 19), none, [], [0], [20, 21]⟩,
      ⟨(some 3), .mv (.t 20), none, [1, 5, 7, 19, 20], [0, 1, 3], [21]⟩,
      ⟨(some 4), .mv (.t 21), none, [21], [0, 1, 2, 3, 4], []⟩])
     (.ret))))⟩
theorem chk85 : chkF Tryd.prog 85 sf85 = true := by kernel_rfl
/-- custody/hash.schedule -/
def sf86 : SF := ⟨79, [.c 2 (some 64)],
 .seq (.reg [⟨(some 2), .new 121 [.int .u32 0, .int .u32 0, .int .u32 0, .int .u32 0, .int .u32 0, .int .u32 0, .int .u32 0, .int .u32 0, .int .u32 0, .int .u32 0, .int .u32 0, .int .u32 0, .int .u32 0, .int .u32 0, .int .u32 0, .int .u32 0, .int .u32 0, .int .u32 0, .int .u32 0, .int .u32 0, .int .u32 0, .int .u32 0, .int .u32 0, .int .u32 0, .int .u32 0, .int .u32 0, .int .u32 0, .int .u32 0, .int .u32 0, .int .u32 0, .int .u32 0, .int .u32 0, .int .u32 0, .int .u32 0, .int .u32 0, .int .u32 0, .int .u32 0, .int .u32 0, .int .u32 0, .int .u32 0, .int .u32 0, .int .u32 0, .int .u32 0, .int .u32 0, .int .u32 0, .int .u32 0, .int .u32 0, .int .u32 0, .int .u32 0, .int .u32 0, .int .u32 0, .int .u32 0, .int .u32 0, .int .u32 0, .int .u32 0, .int .u32 0, .int .u32 0, .int .u32 0, .int .u32 0, .int .u32 0, .int .u32 0, .int .u32 0, .int .u32 0, .int .u32 0], none, [], [], []⟩])
  (.seq (.reg [⟨(some 3), .new 121 [.int .u32 0, .int .u32 0, .int .u32 0, .int .u32 0, .int .u32 0, .int .u32 0, .int .u32 0, .int .u32 0, .int .u32 0, .int .u32 0, .int .u32 0, .int .u32 0, .int .u32 0, .int .u32 0, .int .u32 0, .int .u32 0, .int .u32 0, .int .u32 0, .int .u32 0, .int .u32 0, .int .u32 0, .int .u32 0, .int .u32 0, .int .u32 0, .int .u32 0, .int .u32 0, .int .u32 0, .int .u32 0, .int .u32 0, .int .u32 0, .int .u32 0, .int .u32 0, .int .u32 0, .int .u32 0, .int .u32 0, .int .u32 0, .int .u32 0, .int .u32 0, .int .u32 0, .int .u32 0, .int .u32 0, .int .u32 0, .int .u32 0, .int .u32 0, .int .u32 0, .int .u32 0, .int .u32 0, .int .u32 0, .int .u32 0, .int .u32 0, .int .u32 0, .int .u32 0, .int .u32 0, .int .u32 0, .int .u32 0, .int .u32 0, .int .u32 0, .int .u32 0, .int .u32 0, .int .u32 0, .int .u32 0, .int .u32 0, .int .u32 0, .int .u32 0], none, [], [], []⟩])
   (.seq (.seq (.reg [⟨(some 11), .mv (.c (.int .i64 0)), none, [], [], []⟩])
     (.block 0 (.loop (.seq (.reg [⟨(some 12), .bin .lss (.t 11) (.c (.int .i64 64)), none, [], [], []⟩])
        (.seq (.cond (.t 12) (.skip)
          (.exit 0))
         (.seq (.block 1 (.seq (.reg [⟨(some 13), .mv (.t 11), none, [], [], []⟩,
             ⟨(some 4), .mv (.t 13), none, [13], [], []⟩])
            (.seq (.seq (.reg [⟨(some 14), .mv (.t 4), none, [], [], []⟩,
               ⟨(some 15), .bin .lss (.t 14) (.c (.int .i64 16)), none, [14], [], []⟩])
              (.cond (.t 15) (.seq (.seq (.reg [⟨(some 16), .mv (.t 0), none, [], [], []⟩,
                  ⟨(some 17), .mv (.t 4), none, [], [], []⟩,
                  ⟨(some 18), .bin .mul (.c (.int .i64 4)) (.t 17), none, [17], [], []⟩,
                  ⟨(some 19), .mv (.t 4), none, [], [], []⟩,
                  ⟨(some 20), .bin .mul (.c (.int .i64 4)) (.t 19), none, [19], [], []⟩,
                  ⟨(some 21), .bin .add (.t 20) (.c (.int .i64 4)), none, [20], [], []⟩,
                  ⟨(some 22), .slcS 1 (.t 16) (some (.t 18)) (some (.t 21)), none, [16, 18, 21], [], []⟩,
                  ⟨(some 23), .len false (.t 22), none, [], [], []⟩,
                  ⟨(some 24), .mv (.c (.int .i64 0)), none, [], [], []⟩])
                 (.block 2 (.loop (.seq (.reg [⟨(some 25), .bin .lss (.t 24) (.t 23), none, [], [], []⟩])
                    (.seq (.cond (.t 25) (.skip)
                      (.exit 2))
                     (.seq (.block 3 (.seq (.reg [⟨(some 26), .idxS (.t 22) (.t 24) 1, none, [], [], []⟩,
                         ⟨(some 27), .load none (.t 26), none, [26], [], []⟩,
                         ⟨(some 6), .mv (.t 27), none, [27], [], []⟩])
                        (.reg [⟨(some 28), .mv (.t 4), none, [], [], []⟩,
                         ⟨(some 29), .mv (.t 4), none, [], [], []⟩,
                         ⟨(some 30), .idxA (.t 3) (.t 29) 64 1, none, [29], [], []⟩,
                         ⟨(some 31), .load none (.t 30), none, [30], [], []⟩,
                         ⟨(some 32), .bin .shl (.t 31) (.c (.int .u64 8)), none, [31], [], []⟩,
                         ⟨(some 33), .mv (.t 6), none, [6], [], []⟩,
                         ⟨(some 34), .conv .u32 (.t 33), none, [33], [], []⟩,
                         ⟨(some 35), .bin .or (.t 32) (.t 34), none, [32, 34], [], []⟩,
                         ⟨(some 36), .idxA (.t 3) (.t 28) 64 1, none, [28], [], []⟩,
                         ⟨none, .store 1 (.t 36) (.t 35), none, [35, 36], [], []⟩])))
                      (.reg [⟨(some 37), .bin .add (.t 24) (.c (.int .i64 1)), none, [24], [], []⟩,
                       ⟨(some 24), .mv (.t 37), none, [37], [], []⟩])))))))
                (.exit 1))
               (.skip)))
             (.seq (.regP 9 [⟨(some 38), .mv (.t 4), none, [], [], [42, 43, 44, 45]⟩,
               ⟨(some 39), .bin .sub (.t 38) (.c (.int .i64 15)), none, [], [0], [42, 43, 44, 45]⟩,
               ⟨(some 40), .idxA (.t 3) (.t 39) 64 1, none, [], [0, 1], [42, 43, 44, 45]⟩,
               ⟨(some 41), .load none (.t 40), none, [], [0, 1, 2], [42, 43, 44, 45]⟩,
               ⟨(some 42), .mv (.t 4), none, [], [], [7, 38, 39, 40, 41]⟩,
               ⟨(some 43), .bin .sub (.t 42) (.c (.int .i64 2)), none, [], [4], [7, 38, 39, 40, 41]⟩,
               ⟨(some 44), .idxA (.t 3) (.t 43) 64 1, none, [], [4, 5], [7, 38, 39, 40, 41]⟩,
               ⟨(some 45), .load none (.t 44), none, [], [4, 5, 6], [7, 38, 39, 40, 41]⟩,
               ⟨(some 7), .mv (.t 41), none, [38, 39, 40, 41, 42, 43, 44], [0, 1, 2, 3], [42, 43, 44, 45]⟩,
               ⟨(some 8), .mv (.t 45), none, [45], [0, 1, 2, 3, 4, 5, 6, 7, 8], []⟩])
              (.seq (.reg [⟨(some 46), .mv (.t 7), none, [], [], []⟩,
                ⟨(some 47), .callp 104 [.t 46, .c (.int .i64 (-7))], none, [46], [], []⟩,
                ⟨(some 48), .mv (.t 7), none, [], [], []⟩,
                ⟨(some 49), .callp 104 [.t 48, .c (.int .i64 (-18))], none, [48], [], []⟩,
                ⟨(some 50), .bin .xor (.t 47) (.t 49), none, [47, 49], [], []⟩,
                ⟨(some 51), .mv (.t 7), none, [7], [], []⟩,
                ⟨(some 52), .bin .shr (.t 51) (.c (.int .u64 3)), none, [51], [], []⟩,
                ⟨(some 53), .bin .xor (.t 50) (.t 52), none, [50, 52], [], []⟩,
                ⟨(some 9), .mv (.t 53), none, [53], [], []⟩])
               (.seq (.reg [⟨(some 54), .mv (.t 8), none, [], [], []⟩,
                 ⟨(some 55), .callp 104 [.t 54, .c (.int .i64 (-17))], none, [54], [], []⟩,
                 ⟨(some 56), .mv (.t 8), none, [], [], []⟩,
                 ⟨(some 57), .callp 104 [.t 56, .c (.int .i64 (-19))], none, [56], [], []⟩,
                 ⟨(some 58), .bin .xor (.t 55) (.t 57), none, [55, 57], [], []⟩,
                 ⟨(some 59), .mv (.t 8), none, [8], [], []⟩,
                 ⟨(some 60), .bin .shr (.t 59) (.c (.int .u64 10)), none, [59], [], []⟩,
                 ⟨(some 61), .bin .xor (.t 58) (.t 60), none, [58, 60], [], []⟩,
                 ⟨(some 10), .mv (.t 61), none, [61], [], []⟩])
                (.regP 14 [⟨(some 62), .mv (.t 4), none, [], [], [63, 64, 65, 66, 67, 68, 69, 70, 71, 72, 73, 74, 75]⟩,
                 ⟨(some 63), .mv (.t 4), none, [], [], [62, 67, 69, 70, 71, 72, 74]⟩,
                 ⟨(some 64), .bin .sub (.t 63) (.c (.int .i64 16)), none, [], [1], [62, 67, 69, 70, 71, 72, 74]⟩,
                 ⟨(some 65), .idxA (.t 3) (.t 64) 64 1, none, [], [1, 2], [62, 67, 69, 70, 71, 72, 74]⟩,
                 ⟨(some 66), .load none (.t 65), none, [], [1, 2, 3], [62, 67, 69, 70, 71, 72, 74]⟩,
                 ⟨(some 67), .mv (.t 9), none, [], [], [62, 63, 64, 65, 66, 69, 70, 71, 72, 74]⟩,
                 ⟨(some 68), .bin .add (.t 66) (.t 67), none, [], [1, 2, 3, 4, 5], [62, 69, 70, 71, 72, 74]⟩,
                 ⟨(some 69), .mv (.t 4), none, [], [], [62, 63, 64, 65, 66, 67, 68, 74]⟩,
                 ⟨(some 70), .bin .sub (.t 69) (.c (.int .i64 7)), none, [], [7], [62, 63, 64, 65, 66, 67, 68, 74]⟩,
                 ⟨(some 71), .idxA (.t 3) (.t 70) 64 1, none, [], [7, 8], [62, 63, 64, 65, 66, 67, 68, 74]⟩,
                 ⟨(some 72), .load none (.t 71), none, [], [7, 8, 9], [62, 63, 64, 65, 66, 67, 68, 74]⟩,
                 ⟨(some 73), .bin .add (.t 68) (.t 72), none, [], [1, 2, 3, 4, 5, 6, 7, 8, 9, 10], [62, 74]⟩,
                 ⟨(some 74), .mv (.t 10), none, [], [], [62, 63, 64, 65, 66, 67, 68, 69, 70, 71, 72, 73]⟩,
                 ⟨(some 75), .bin .add (.t 73) (.t 74), none, [4, 9, 10, 63, 64, 65, 66, 67, 68, 69, 70, 71, 72, 73, 74], [1, 2, 3, 4, 5, 6, 7, 8, 9, 10, 11, 12], [62]⟩,
                 ⟨(some 76), .idxA (.t 3) (.t 62) 64 1, none, [62], [0, 1, 2, 3, 4, 5, 6, 7, 8, 9, 10, 11, 12, 13], []⟩,
                 ⟨none, .store 1 (.t 76) (.t 75), none, [75, 76], [0, 1, 2, 3, 4, 5, 6, 7, 8, 9, 10, 11, 12, 13, 14], []⟩])))))))
          (.reg [⟨(some 77), .bin .add (.t 11) (.c (.int .i64 1)), none, [11], [], []⟩,
           ⟨(some 11), .mv (.t 77), none, [77], [], []⟩])))))))
    (.seq (.reg [⟨(some 78), .load (some 64) (.t 3), none, [3], [], []⟩,
      ⟨none, .store 64 (.t 2) (.t 78), none, [78], [], []⟩])
     (.ret))))⟩
theorem chk86 : chkF Tryd.prog 86 sf86 = true := by kernel_rfl
/-- custody/hash.mix -/
def sf87 : SF := ⟨23, [.t 8],
 .seq (.reg [⟨(some 8), .mv (.c (.int .u32 0)), none, [8], [], []⟩])
  (.seq (.reg [⟨(some 9), .mv (.t 0), none, [], [], []⟩,
    ⟨(some 10), .mv (.t 1), none, [1], [], []⟩,
    ⟨(some 11), .un .neg (.t 10), none, [10], [], []⟩,
    ⟨(some 12), .callp 104 [.t 9, .t 11], none, [9, 11], [], []⟩,
    ⟨(some 13), .mv (.t 0), none, [], [], []⟩,
    ⟨(some 14), .mv (.t 2), none, [2], [], []⟩,
    ⟨(some 15), .un .neg (.t 14), none, [14], [], []⟩,
    ⟨(some 16), .callp 104 [.t 13, .t 15], none, [13, 15], [], []⟩,
    ⟨(some 17), .bin .xor (.t 12) (.t 16), none, [12, 16], [], []⟩,
    ⟨(some 18), .mv (.t 0), none, [0], [], []⟩,
    ⟨(some 19), .mv (.t 3), none, [3], [], []⟩,
    ⟨(some 20), .un .neg (.t 19), none, [19], [], []⟩,
    ⟨(some 21), .callp 104 [.t 18, .t 20], none, [18, 20], [], []⟩,
    ⟨(some 22), .bin .xor (.t 17) (.t 21), none, [17, 21], [], []⟩,
    ⟨(some 8), .mv (.t 22), none, [22], [], []⟩])
   (.ret))⟩
theorem chk87 : chkF Tryd.prog 87 sf87 = true := by kernel_rfl
/-- math/bits.RotateLeft32 -/
def sf104 : SF := ⟨17, [.t 4],
 .seq (.reg [⟨(some 4), .mv (.c (.int .u32 0)), none, [4], [], []⟩])
  (.seq (.reg [⟨(some 6), .mv (.t 1), none, [1], [], []⟩,
    ⟨(some 7), .conv .u64 (.t 6), none, [6], [], []⟩,
    ⟨(some 8), .bin .and (.t 7) (.c (.int .u64 31)), none, [7], [], []⟩,
    ⟨(some 5), .mv (.t 8), none, [8], [], []⟩])
   (.seq (.reg [⟨(some 9), .mv (.t 0), none, [], [], []⟩,
     ⟨(some 10), .mv (.t 5), none, [], [], []⟩,
     ⟨(some 11), .bin .shl (.t 9) (.t 10), none, [9, 10], [], []⟩,
     ⟨(some 12), .mv (.t 0), none, [0], [], []⟩,
     ⟨(some 13), .mv (.t 5), none, [5], [], []⟩,
     ⟨(some 14), .bin .sub (.c (.int .u64 32)) (.t 13), none, [13], [], []⟩,
     ⟨(some 15), .bin .shr (.t 12) (.t 14), none, [12, 14], [], []⟩,
     ⟨(some 16), .bin .or (.t 11) (.t 15), none, [11, 15], [], []⟩,
     ⟨(some 4), .mv (.t 16), none, [16], [], []⟩])
    (.ret)))⟩
theorem chk104 : chkF Tryd.prog 104 sf104 = true := by kernel_rfl
end Go.Proofs.YtkfbkooobfepeaaDoor.Sf

/- The engine, part Ra: a runner that the kernel can carry out: operations. -/
namespace Go.Sx
open Go
set_option linter.unusedSimpArgs false
set_option linter.unusedVariables false

abbrev R3 := SV × Mem × Nat
abbrev RunF := FuncId → List SV → Mem → Nat → Option R3

def fillR (fr : Fr) : List SV → List (Nat × Nat × Opd) → Option (List SV)
  | cs, [] => some cs
  | cs, (off, size, x) :: r => match (x.ev fr).cells? with
    | some l => if l.length = size then if off + size ≤ cs.length then fillR fr (splice cs off l) r else none else none
    | none => none

def runBinI (op : BinOp) (k k' : IntKind) (a b : Int) : Option SV :=
  match op with
  | .shl => if 0 ≤ b then some (.int k (k.wrap (a * 2 ^ (min b.toNat k.bits)))) else none
  | .shr => if 0 ≤ b then some (.int k (a.fdiv (2 ^ (min b.toNat k.bits)))) else none
  | .add => if k = k' then some (.int k (k.wrap (a + b))) else none
  | .sub => if k = k' then some (.int k (k.wrap (a - b))) else none
  | .mul => if k = k' then some (.int k (k.wrap (a * b))) else none
  | .quo => if k = k' then if b ≠ 0 then some (.int k (k.wrap (a.tdiv b))) else none else none
  | .rem => if k = k' then if b ≠ 0 then some (.int k (a.tmod b)) else none else none
  | .and => if k = k' then some (.int k (bitop .and k a b)) else none
  | .or => if k = k' then some (.int k (bitop .or k a b)) else none
  | .xor => if k = k' then some (.int k (bitop .xor k a b)) else none
  | .andNot => if k = k' then some (.int k (bitop .andNot k a b)) else none
  | .eql => if k = k' then some (.bool (a == b)) else none
  | .neq => if k = k' then some (.bool (a != b)) else none
  | .lss => if k = k' then some (.bool (decide (a < b))) else none
  | .leq => if k = k' then some (.bool (decide (a ≤ b))) else none
  | .gtr => if k = k' then some (.bool (decide (a > b))) else none
  | .geq => if k = k' then some (.bool (decide (a ≥ b))) else none

def runBinS (op : BinOp) (a b : List UInt8) : Option SV :=
  match op with
  | .add => if a.length + b.length ≤ maxStr then some (.str (a ++ b)) else none
  | .eql => some (.bool (a == b))
  | .neq => some (.bool (!(a == b)))
  | .lss => some (.bool (Op.bytesLess a b))
  | .leq => some (.bool (Op.bytesLess a b || a == b))
  | .gtr => some (.bool (!(Op.bytesLess a b || a == b)))
  | .geq => some (.bool (!(Op.bytesLess a b)))
  | _ => none

def runBin (op : BinOp) (x y : SV) : Option SV :=
  match x, y with
  | .int k a, .int k' b => runBinI op k k' a b
  | .str a, .str b => runBinS op a b
  | _, _ => none

def optInt (fr : Fr) (x : Option Opd) (d : Int) : Option Int :=
  match x with
  | none => some d
  | some o => match o.ev fr with
    | .int _ n => some n
    | _ => none

def srcSlR (m : Mem) (s : Nat) (v : SV) : Option (Nat × List SV) :=
  match v with
  | .slc i o s' len _ => match rd m i with
    | some B => if s' = s then if o + len * s ≤ B.cells.length then some (len, (B.cells.drop o).take (len * s)) else none else none
    | none => none
  | .val (.slice none 0 0) => some (0, [])
  | _ => none
def srcOfR (m : Mem) (s : Nat) (v : SV) : Option (Nat × List SV) :=
  match v with
  | .str t => if s = 1 then some (t.length, t.map SV.byte) else none
  | v => srcSlR m s v

theorem fillR_ok {fr : Fr} : ∀ {ps : List (Nat × Nat × Opd)} {cs r : List SV} {F : List SV → Prop}, fillR fr cs ps = some r → F r → fillE fr cs ps F
  | [], cs, r, F, h, hF => by simp only [fillR] at h; cases h; exact hF
  | (off, size, x) :: ps, cs, r, F, h, hF => by
    simp only [fillR] at h
    simp only [fillE]
    split at h
    · rename_i l hl
      simp only [hl]
      split at h
      · split at h
        · refine ⟨by assumption, by assumption, fillR_ok h hF⟩
        · cases h
      · cases h
    · cases h

theorem runBin_ok {op : BinOp} {x y v : SV} {F : SV → Prop} (h : runBin op x y = some v) (hF : F v) : binV op x y F := by
  unfold runBin at h
  unfold binV
  split at h
  · unfold runBinI at h
    unfold binI
    cases op <;> simp only at h ⊢ <;> (repeat' split at h) <;> first | cases h | skip
    all_goals first
      | exact ⟨by assumption, hF⟩
      | exact ⟨by assumption, by assumption, hF⟩
  · unfold runBinS at h
    unfold binS
    cases op <;> simp only at h ⊢ <;> (repeat' split at h) <;> first | cases h | skip
    all_goals first
      | exact hF
      | exact ⟨by assumption, hF⟩
  · cases h

theorem optInt_ok {fr : Fr} {x : Option Opd} {d i : Int} {F : Int → Prop} (h : optInt fr x d = some i) (hF : F i) : onOpt fr x d F := by
  unfold optInt at h
  unfold onOpt
  split at h
  · cases h; exact hF
  · simp only [onInt]
    split at h
    · rename_i he; cases h; simp only [he]; exact hF
    · cases h

theorem srcSlR_ok {m : Mem} {s : Nat} {v : SV} {k : Nat} {l : List SV} {F : Nat → List SV → Prop} (h : srcSlR m s v = some (k, l)) (hF : F k l) : srcSlE m s v F := by
  unfold srcSlR at h
  unfold srcSlE
  split at h
  · split at h
    · rename_i hB
      simp only [hB]
      split at h
      · split at h
        · cases h; exact ⟨by assumption, by assumption, hF⟩
        · cases h
      · cases h
    · cases h
  · cases h; exact hF
  · cases h
theorem srcOfR_ok {m : Mem} {s : Nat} {v : SV} {k : Nat} {l : List SV} {F : Nat → List SV → Prop} (h : srcOfR m s v = some (k, l)) (hF : F k l) : srcOfE m s v F := by
  unfold srcOfR at h
  unfold srcOfE
  split at h
  · split at h
    · cases h; exact ⟨by assumption, hF⟩
    · cases h
  · rename_i hne
    split
    · exact (hne _ rfl).elim
    · exact srcSlR_ok h hF

def capOkR (m : Mem) (b o len s : Nat) (cap : Option Nat) : Bool :=
  match cap with
  | none => (match rd m b with
    | some B => Nat.ble (o + len * s) B.cells.length
    | none => false)
  | some c => Nat.ble len c

def runO (T : List (Nat × List SV)) (G : RunF) (fr : Fr) (m : Mem) (n : Nat) : SOp → Option R3
  | .mv x => some (x.ev fr, m, n)
  | .pick c a b => match c.ev fr with
    | .bool true => some (a.ev fr, m, n)
    | .bool false => some (b.ev fr, m, n)
    | _ => none
  | .new e z => some (.ptr n 0, (n, ⟨.own e, z⟩) :: m, n + 1)
  | .box e x => match (x.ev fr).cells? with
    | some l => some (.ptr n 0, (n, ⟨.own e, l⟩) :: m, n + 1)
    | none => none
  | .build z parts => match fillR fr z parts with
    | some cs => some (.agg cs, m, n)
    | none => none
  | .bslice e s k z parts => match fillR fr z parts with
    | some cs => some (.slc n 0 s k none, (n, ⟨.own e, cs⟩) :: m, n + 1)
    | none => none
  | .load agg x =>
    match x.ev fr with
    | .ptr i o => match rd m i with
      | some B => match agg with
        | none => match B.cells[o]? with
          | some v => some (v, m, n)
          | none => none
        | some k => if o + k ≤ B.cells.length then some (.agg ((B.cells.drop o).take k), m, n) else none
      | none => none
    | .gp g o => match lookT T g with
      | some cs => match agg with
        | none => match cs[o]? with
          | some v => some (v, m, n)
          | none => none
        | some k => if o + k ≤ cs.length then some (.agg ((cs.drop o).take k), m, n) else none
      | none => none
    | _ => none
  | .store k a x =>
    match a.ev fr with
    | .ptr i o => match rd m i with
      | some ⟨.own e, cells⟩ => match (x.ev fr).cells? with
        | some l => if l.length = k then if o + k ≤ cells.length then some (.any, upd m i ⟨.own e, splice cells o l⟩, n) else none else none
        | none => none
      | _ => none
    | _ => none
  | .nilc x =>
    match x.ev fr with
    | .ptr i o => some (.ptr i o, m, n)
    | .gp g o => some (.gp g o, m, n)
    | .fn f a b => some (.fn f a b, m, n)
    | _ => none
  | .fld x off =>
    match x.ev fr with
    | .ptr i o => some (.ptr i (o + off), m, n)
    | .gp g o => some (.gp g (o + off), m, n)
    | _ => none
  | .idxA x i len s =>
    match i.ev fr with
    | .int _ ix => if 0 ≤ ix then if ix < len then (match x.ev fr with
      | .ptr b o => some (.ptr b (o + ix.toNat * s), m, n)
      | .gp b o => some (.gp b (o + ix.toNat * s), m, n)
      | _ => none) else none else none
    | _ => none
  | .idxS x i s =>
    match i.ev fr with
    | .int _ ix => match x.ev fr with
      | .slc b o s' len _ => match rd m b with
        | some B => if s' = s then if 0 ≤ ix then if ix < len then if o + ix.toNat * s < B.cells.length then some (.ptr b (o + ix.toNat * s), m, n) else none else none else none else none
        | none => none
      | _ => none
    | _ => none
  | .idxV x i len s agg =>
    match i.ev fr with
    | .int _ ix => match x.ev fr with
      | .agg l => if 0 ≤ ix then if ix < len then (match agg with
        | true => some (.agg ((l.drop (ix.toNat * s)).take s), m, n)
        | false => match l[ix.toNat * s]? with
          | some v => some (v, m, n)
          | none => none) else none else none
      | _ => none
    | _ => none
  | .idxT x i =>
    match i.ev fr with
    | .int _ ix => match x.ev fr with
      | .str t => if 0 ≤ ix then (match t[ix.toNat]? with
        | some c => some (SV.byte c, m, n)
        | none => none) else none
      | _ => none
    | _ => none
  | .fieldV x off agg =>
    match x.ev fr with
    | .agg l => match agg with
      | some k => some (.agg ((l.drop off).take k), m, n)
      | none => match l[off]? with
        | some v => some (v, m, n)
        | none => none
    | _ => none
  | .bin op x y => match runBin op (x.ev fr) (y.ev fr) with
    | some v => some (v, m, n)
    | none => none
  | .eqv neg pat x y =>
    match x.ev fr, y.ev fr with
    | .agg l, .agg l' => match eqPat pat l l' with
      | some b => some (.bool (if neg then !b else b), m, n)
      | none => none
    | _, _ => none
  | .eqb neg x y =>
    match x.ev fr, y.ev fr with
    | .bool a, .bool c => some (.bool (if neg then !(a == c) else a == c), m, n)
    | _, _ => none
  | .isNil neg x =>
    match x.ev fr with
    | .val (.slice none 0 0) => some (.bool (!neg), m, n)
    | .slc b o _ _ _ => match rd m b with
      | some B => if o < B.cells.length then some (.bool neg, m, n) else none
      | none => none
    | _ => none
  | .un op x =>
    match op, x.ev fr with
    | .not, .bool b => some (.bool (!b), m, n)
    | .neg, .int k a => some (.int k (k.wrap (0 - a)), m, n)
    | .xor, .int k a => some (.int k (bitop .xor k (if k.signed then -1 else k.max) a), m, n)
    | _, _ => none
  | .conv k x =>
    match x.ev fr with
    | .int _ a => some (.int k (k.wrap a), m, n)
    | _ => none
  | .strS x =>
    match x.ev fr with
    | .str t => some (.str t, m, n)
    | _ => none
  | .b2s x => match srcSlR m 1 (x.ev fr) with
    | some (_, l) => if l.all isU8 = true then some (.str (l.map byteOf), m, n) else none
    | none => none
  | .s2b e x =>
    match x.ev fr with
    | .str t => some (.slc n 0 1 t.length none, (n, ⟨.own e, t.map SV.byte⟩) :: m, n + 1)
    | _ => none
  | .mkfn f first cap => some (.fn f (first.map (·.ev fr)) (cap.map (·.ev fr)), m, n)
  | .mksl e s bytes z l c =>
    match l.ev fr with
    | .int _ ln => match c.ev fr with
      | .int _ cp => if 0 ≤ ln then if ln ≤ cp then if cp * bytes ≤ 2 ^ 40 then if cp ≤ 2 ^ 40 then
          some (.slc n 0 s ln.toNat none, (n, ⟨.own e, rep cp.toNat z⟩) :: m, n + 1) else none else none else none else none
      | _ => none
    | _ => none
  | .slcS s x lo hi =>
    match x.ev fr with
    | .slc b o s' len cap =>
      if s' = s then if capOkR m b o len s cap = true then
      match optInt fr lo 0 with
      | some l => match optInt fr hi len with
        | some h => if 0 ≤ l then if l ≤ h then if h ≤ len then some (.slc b (o + l.toNat * s) s (h.toNat - l.toNat) (cap.map (· - l.toNat)), m, n) else none else none else none
        | none => none
      | none => none
      else none else none
    | .val (.slice none 0 0) => match optInt fr lo 0 with
      | some l => match optInt fr hi 0 with
        | some h => if l = 0 then if h = 0 then some (.val (.slice none 0 0), m, n) else none else none
        | none => none
      | none => none
    | _ => none
  | .slcA k s x lo hi =>
    match x.ev fr with
    | .ptr b o => match optInt fr lo 0 with
      | some l => match optInt fr hi k with
        | some h => if 0 ≤ l then if l ≤ h then if h ≤ k then some (.slc b (o + l.toNat * s) s (h.toNat - l.toNat) (some (k - l.toNat)), m, n) else none else none else none
        | none => none
      | none => none
    | _ => none
  | .slcT x lo hi =>
    match x.ev fr with
    | .str t => match optInt fr lo 0 with
      | some l => match optInt fr hi t.length with
        | some h => if 0 ≤ l then if l ≤ h then if h ≤ t.length then some (.str ((t.drop l.toNat).take (h.toNat - l.toNat)), m, n) else none else none else none
        | none => none
      | none => none
    | _ => none
  | .arrAt k x =>
    match x.ev fr with
    | .slc b o _ len _ => match rd m b with
      | some B => if 0 < k then if k ≤ len then if o < B.cells.length then some (.ptr b o, m, n) else none else none else none
      | none => none
    | _ => none
  | .ext x i =>
    match x.ev fr with
    | .tup l => match l[i]? with
      | some v => some (v, m, n)
      | none => none
    | _ => none
  | .call f args => G f (args.map (·.ev fr)) m n
  | .callp f args => if SV.flatL (args.map (·.ev fr)) = true then (match G f (args.map (·.ev fr)) [] 0 with
    | some (v, [], 0) => if v.flat = true then some (v, m, n) else none
    | _ => none) else none
  | .callv x args =>
    match x.ev fr with
    | .fn f first cap => G f (first ++ args.map (·.ev fr) ++ cap) m n
    | _ => none
  | .len isStr x =>
    match isStr, x.ev fr with
    | true, .str t => some (.int .i64 t.length, m, n)
    | false, .slc _ _ _ l _ => some (.int .i64 l, m, n)
    | false, .val (.slice none 0 0) => some (.int .i64 0, m, n)
    | _, _ => none
  | .lenA k => some (.int .i64 k, m, n)
  | .app e s bytes x y =>
    match srcOfR m s (y.ev fr) with
    | some (k, l) => (match x.ev fr with
      | .slc i o s' len cap => (match rd m i with
        | some ⟨.own e', cells⟩ => if s' = s then if o = 0 then if cap = none then if (len + k) * bytes ≤ 2 ^ 40 then if bytes ≤ 2 ^ 20 then if e' = e then if len * s ≤ cells.length then
          some (.slc n 0 s (len + k) none, (n, ⟨.own e, cells.take (len * s) ++ l⟩) :: rm m i, n + 1) else none else none else none else none else none else none else none
        | _ => none)
      | .val (.slice none 0 0) => if k * bytes ≤ 2 ^ 40 then if bytes ≤ 2 ^ 20 then some (.slc n 0 s k none, (n, ⟨.own e, l⟩) :: m, n + 1) else none else none
      | _ => none)
    | none => none
  | .copy s x y =>
    match srcOfR m s (y.ev fr) with
    | some (k, l) => (match x.ev fr with
      | .slc i o s' len _ => (match rd m i with
        | some ⟨.own e, cells⟩ => if s' = s then if o + len * s ≤ cells.length then
          some (.int .i64 (min k len : Nat), upd m i ⟨.own e, splice cells o (l.take (min k len * s))⟩, n) else none else none
        | _ => none)
      | _ => none)
    | none => none
  | .mkmap a => some (.mp n, (n, ⟨.map a [], []⟩) :: m, n + 1)
  | .mput a x key =>
    match x.ev fr with
    | .mp i => match keysOf m i with
      | some (a', ks) => match kvOf a (key.ev fr) with
        | some kv => if a' = a then some (.any, upd m i ⟨.map a (insK ks kv), []⟩, n) else none
        | none => none
      | none => none
    | _ => none
  | .mlen x =>
    match x.ev fr with
    | .mp i => match keysOf m i with
      | some (_, ks) => some (.int .i64 ks.length, m, n)
      | none => none
    | _ => none
  | .mk8 x =>
    match x.ev fr with
    | .slc i o s len cap => match rd m i with
      | some ⟨.own e, cells⟩ => if 0 < len then if 0 < cells.length then some (.slc i o s len cap, upd m i ⟨.own e, cells⟩, n) else none else none
      | _ => none
    | _ => none
  | .capN x =>
    match x.ev fr with
    | .val (.slice none 0 0) => some (.int .i64 0, m, n)
    | _ => none
  | .appZ e s bytes z x k =>
    match k.ev fr with
    | .int _ k => match x.ev fr with
      | .val (.slice none 0 0) => if 0 < k then if k * bytes ≤ 2 ^ 40 then if bytes ≤ 2 ^ 20 then some (.slc n 0 s k.toNat none, (n, ⟨.own e, rep k.toNat z⟩) :: m, n + 1) else none else none else none
      | _ => none
    | _ => none
  | .mx x y =>
    match x.ev fr, y.ev fr with
    | .int k a, .int _ b => some (.int k (if b > a then b else a), m, n)
    | _, _ => none
  | .mn x y =>
    match x.ev fr, y.ev fr with
    | .int k a, .int _ b => some (.int k (if b < a then b else a), m, n)
    | _, _ => none

/-- what is run of calls, is so -/
def RunOk (G : RunF) (call : CallT) : Prop := ∀ f args m n v m' n' (K : Kt), G f args m n = some (v, m', n') → K v m' n' → call f args m n K

theorem runO_ok {T : List (Nat × List SV)} {G : RunF} {call : CallT} (hG : RunOk G call) {fr : Fr} {m : Mem} {n : Nat} {op : SOp} {v : SV} {m' : Mem} {n' : Nat} {K : Kt}
    (h : runO T G fr m n op = some (v, m', n')) (hK : K v m' n') : evO T call fr m n K op := by
  cases op <;> simp only [runO] at h
  case build => 
    split at h
    · cases h; simp only [evO]; exact fillR_ok (by assumption) hK
    · cases h
  case bslice =>
    split at h
    · cases h; simp only [evO]; exact fillR_ok (by assumption) hK
    · cases h
  case bin =>
    split at h
    · cases h; simp only [evO, exO]; exact runBin_ok (by assumption) hK
    · cases h
  case b2s =>
    split at h
    · split at h
      · cases h; simp only [evO]; exact srcSlR_ok (by assumption) ⟨by assumption, hK⟩
      · cases h
    · cases h
  case call => simp only [evO, exO]; exact hG _ _ _ _ _ _ _ _ h hK
  case callp =>
    split at h
    · split at h
      · split at h
        · cases h; simp only [evO, exO]; exact ⟨by assumption, hG _ _ _ _ _ _ _ _ (by assumption) ⟨rfl, rfl, by assumption, hK⟩⟩
        · cases h
      · cases h
    · cases h
  case callv =>
    simp only [evO, exO]
    split at h
    · rename_i he; simp only [he]; exact hG _ _ _ _ _ _ _ _ h hK
    · cases h
  case slcS =>
    simp only [evO]
    split at h
    · rename_i he
      split at h
      · split at h
        · rename_i hc
          split at h
          · split at h
            · split at h
              · split at h
                · split at h
                  · cases h
                    simp only [he]
                    refine ⟨by assumption, ?_, optInt_ok (by assumption) (optInt_ok (by assumption) ⟨by assumption, by assumption, by assumption, hK⟩)⟩
                    unfold capOkR at hc
                    split at hc
                    · simp only
                      split at hc
                      · rename_i hB; simp only [hB]; exact Nat.le_of_ble_eq_true hc
                      · cases hc
                    · exact Nat.le_of_ble_eq_true hc
                  · cases h
                · cases h
              · cases h
            · cases h
          · cases h
        · cases h
      · cases h
    · rename_i he
      split at h
      · split at h
        · split at h
          · split at h
            · cases h
              simp only [he]
              exact optInt_ok (by assumption) (optInt_ok (by assumption) ⟨by assumption, by assumption, hK⟩)
            · cases h
          · cases h
        · cases h
      · cases h
    · cases h
  case slcA =>
    simp only [evO, exO]
    split at h
    · rename_i he
      split at h
      · split at h
        · split at h
          · split at h
            · split at h
              · cases h; simp only [he]; exact optInt_ok (by assumption) (optInt_ok (by assumption) ⟨by assumption, by assumption, by assumption, hK⟩)
              · cases h
            · cases h
          · cases h
        · cases h
      · cases h
    · cases h
  case slcT =>
    simp only [evO, exO]
    split at h
    · rename_i he
      split at h
      · split at h
        · split at h
          · split at h
            · split at h
              · cases h; simp only [he]; exact optInt_ok (by assumption) (optInt_ok (by assumption) ⟨by assumption, by assumption, by assumption, hK⟩)
              · cases h
            · cases h
          · cases h
        · cases h
      · cases h
    · cases h
  case app =>
    simp only [evO]
    split at h
    · rename_i hs
      refine srcOfR_ok hs ?_
      split at h
      · rename_i he
        split at h
        · rename_i hB
          simp only [he, hB]
          (repeat' split at h) <;> first | cases h | skip
          exact ⟨by assumption, by assumption, by assumption, by assumption, by assumption, by assumption, by assumption, hK⟩
        · cases h
      · rename_i he
        simp only [he]
        (repeat' split at h) <;> first | cases h | skip
        exact ⟨by assumption, by assumption, hK⟩
      · cases h
    · cases h
  case copy =>
    simp only [evO]
    split at h
    · rename_i hs
      refine srcOfR_ok hs ?_
      split at h
      · rename_i he
        split at h
        · rename_i hB
          simp only [he, hB]
          (repeat' split at h) <;> first | cases h | skip
          exact ⟨by assumption, by assumption, hK⟩
        · cases h
      · cases h
    · cases h
  case pick =>
    simp only [evO, exO, onBool]
    split at h
    · rename_i he; cases h; simp only [he]; exact ⟨fun _ => hK, fun h => by cases h⟩
    · rename_i he; cases h; simp only [he]; exact ⟨(fun h => by cases h), fun _ => hK⟩
    · cases h
  case mx =>
    simp only [evO, exO]
    split at h
    · rename_i h1 h2; cases h; simp only [h1, h2]; exact hK
    · cases h
  case mn =>
    simp only [evO, exO]
    split at h
    · rename_i h1 h2; cases h; simp only [h1, h2]; exact hK
    · cases h
  all_goals
    first
    | (cases h; simp only [evO, exO]; exact hK)
    | (simp only [evO, exO, onInt]
       (repeat' split at h) <;> first | (cases h; done) | (cases h; simp_all))
end Go.Sx

/- The engine, part Rb: a runner that the kernel can carry out: regions, code, functions. -/
namespace Go.Sx
open Go
set_option linter.unusedSimpArgs false
set_option linter.unusedVariables false

def runR (T : List (Nat × List SV)) (G : RunF) : List Opr → Fr → Mem → Nat → Option (Fr × Mem × Nat)
  | [], fr, m, n => some (fr, m, n)
  | o :: r, fr, m, n =>
    match o.guard with
    | none => match runO T G fr m n o.op with
      | some (v, m', n') => runR T G r (dels (putO fr o.dst v) o.kill) m' n'
      | none => none
    | some (g, b) =>
      match get fr g with
      | .bool t => if t = b then (match runO T G fr m n o.op with
          | some (v, m', n') => runR T G r (dels (putO fr o.dst v) o.kill) m' n'
          | none => none) else runR T G r (dels (putO fr o.dst (.val undef)) o.kill) m n
      | .val (.tuple _) => runR T G r (dels (putO fr o.dst (.val undef)) o.kill) m n
      | _ => none

def runA (T : List (Nat × List SV)) (G : RunF) (fr0 : Fr) (m0 : Mem) : List Opr → List Dn → Nat → Option (List Dn × Nat)
  | [], done, n => some (done, n)
  | o :: r, done, n =>
    match o.guard with
    | none => match runO T G (frD (pickD done o.pre) (dels fr0 o.hide)) (views (memD (pickD done o.pre) m0)) n o.op with
      | some (v, m', n') => if n ≤ n' then runA T G fr0 m0 r (done ++ [⟨o.dst, v, newer n m', n, n'⟩]) n' else none
      | none => none
    | some (g, b) =>
      match get (frD (pickD done o.pre) (dels fr0 o.hide)) g with
      | .bool t => if t = b then (match runO T G (frD (pickD done o.pre) (dels fr0 o.hide)) (views (memD (pickD done o.pre) m0)) n o.op with
          | some (v, m', n') => if n ≤ n' then runA T G fr0 m0 r (done ++ [⟨o.dst, v, newer n m', n, n'⟩]) n' else none
          | none => none) else runA T G fr0 m0 r (done ++ [⟨o.dst, .val undef, [], n, n⟩]) n
      | .val (.tuple _) => runA T G fr0 m0 r (done ++ [⟨o.dst, .val undef, [], n, n⟩]) n
      | _ => none

theorem runR_ok {T : List (Nat × List SV)} {G : RunF} {call : CallT} (hG : RunOk G call) : ∀ {ops : List Opr} {fr : Fr} {m : Mem} {n : Nat} {fr' : Fr} {m' : Mem} {n' : Nat} {K : Fr → Mem → Nat → Prop},
    runR T G ops fr m n = some (fr', m', n') → K fr' m' n' → exR T call ops fr m n K
  | [], fr, m, n, fr', m', n', K, h, hK => by simp only [runR] at h; cases h; exact hK
  | o :: r, fr, m, n, fr', m', n', K, h, hK => by
    simp only [runR] at h
    simp only [exR]
    split at h
    · split at h
      · rename_i hg _ v m1 n1 hr
        simp only [hg]
        exact exO_of_ev _ (runO_ok hG hr (runR_ok hG h hK))
      · cases h
    · rename_i g b hg
      simp only [hg]
      split at h
      · rename_i t ht
        simp only [ht]
        split at h
        · rename_i htb
          subst htb
          split at h
          · rename_i v m1 n1 hr
            exact ⟨fun _ => exO_of_ev _ (runO_ok hG hr (runR_ok hG h hK)), fun e => by cases t <;> cases e⟩
          · cases h
        · rename_i htb
          exact ⟨fun e => absurd e htb, fun _ => runR_ok hG h hK⟩
      · rename_i vs ht
        simp only [ht]
        exact runR_ok hG h hK
      · cases h

theorem runA_ok {T : List (Nat × List SV)} {G : RunF} {call : CallT} (hG : RunOk G call) {fr0 : Fr} {m0 : Mem} : ∀ {ops : List Opr} {done : List Dn} {n : Nat} {done' : List Dn} {n' : Nat} {K : List Dn → Nat → Prop},
    runA T G fr0 m0 ops done n = some (done', n') → K done' n' → exA T call fr0 m0 ops done n K
  | [], done, n, done', n', K, h, hK => by simp only [runA] at h; cases h; exact hK
  | o :: r, done, n, done', n', K, h, hK => by
    simp only [runA] at h
    simp only [exA]
    split at h
    · split at h
      · rename_i hg _ v m1 n1 hr
        split at h
        · rename_i hle
          simp only [hg]
          exact exO_of_ev _ (runO_ok hG hr ⟨hle, runA_ok hG h hK⟩)
        · cases h
      · cases h
    · rename_i g b hg
      simp only [hg]
      split at h
      · rename_i t ht
        simp only [ht]
        split at h
        · rename_i htb
          subst htb
          split at h
          · rename_i v m1 n1 hr
            split at h
            · rename_i hle
              exact ⟨fun _ => exO_of_ev _ (runO_ok hG hr ⟨hle, runA_ok hG h hK⟩), fun e => by cases t <;> cases e⟩
            · cases h
          · cases h
        · rename_i htb
          exact ⟨fun e => absurd e htb, fun _ => runA_ok hG h hK⟩
      · rename_i vs ht
        simp only [ht]
        exact runA_ok hG h hK
      · cases h

def clearB (tc : Option (List Nat)) (bs : List Nat) : Bool :=
  match bs with
  | [] => true
  | b :: r => match tc with
    | some l => (b :: r).all fun b => !(l.contains b)
    | none => false
def untouchedB (b : Nat) (pre : List Nat) : Nat → List DW → Bool
  | _, [] => true
  | q, x :: r => (match pre.contains q with
      | true => true
      | false => match x.tc with
        | some l => !(l.contains b)
        | none => false) && untouchedB b pre (q + 1) r
theorem clearB_ok {tc : Option (List Nat)} {bs : List Nat} (h : clearB tc bs = true) : clear tc bs := by
  unfold clearB at h
  unfold clear
  split at h
  · trivial
  · simp only
    split at h
    · exact h
    · cases h
theorem untouchedB_ok {b : Nat} {pre : List Nat} : ∀ {l : List DW} {q : Nat}, untouchedB b pre q l = true → untouched b pre q l
  | [], q, h => trivial
  | x :: r, q, h => by
    simp only [untouchedB, Bool.and_eq_true] at h
    simp only [untouched]
    refine ⟨?_, untouchedB_ok h.2⟩
    have h := h.1
    cases hp : pre.contains q with
    | true => trivial
    | false =>
      rw [hp] at h
      simp only at h ⊢
      split at h
      · rename_i l hl
        rw [hl]; simpa using h
      · cases h

/-- a block that an operation writes, and what is in it then -/
def wrOp (fr : Fr) (m : Mem) : SOp → Option (Nat × Blk)
  | .store k a x => match a.ev fr with
    | .ptr b off => match rd m b with
      | some ⟨.own e, cells⟩ => match (x.ev fr).cells? with
        | some l => if l.length = k then if off + k ≤ cells.length then some (b, ⟨.own e, splice cells off l⟩) else none else none
        | none => none
      | _ => none
    | _ => none
  | .mput a x key => match x.ev fr with
    | .mp b => match keysOf m b with
      | some (a', ks) => match kvOf a (key.ev fr) with
        | some kv => if a' = a then some (b, ⟨.map a (insK ks kv), []⟩) else none
        | none => none
      | none => none
    | _ => none
  | _ => none
def isW : SOp → Bool
  | .store _ _ _ => true
  | .mput _ _ _ => true
  | _ => false

def runW (T : List (Nat × List SV)) (G : RunF) (fr0 : Fr) (m0 : Mem) : List Opr → List DW → Nat → Option (List DW × Nat)
  | [], done, n => some (done, n)
  | o :: r, done, n =>
    match isW o.op with
    | true => match o.guard with
      | none => match wrOp (frD (pickD (baseD done) o.pre) (dels fr0 o.hide)) (memD (pickD (baseD done) o.pre) m0) o.op with
        | some (b, B) => match (stBlk done).contains b with
          | false => match untouchedB b o.pre 0 done with
            | true => runW T G fr0 m0 r (done ++ [⟨⟨o.dst, .any, [], n, n⟩, some (b, B), none⟩]) n
            | false => none
          | true => none
        | none => none
      | some _ => none
    | false => match clearB (touch (frD (pickD (baseD done) o.pre) (dels fr0 o.hide)) o.op) (stBlk done) with
      | false => none
      | true => match o.guard with
        | none => match runO T G (frD (pickD (baseD done) o.pre) (dels fr0 o.hide)) (views (memD (pickD (baseD done) o.pre) m0)) n o.op with
          | some (v, m', n') => if n ≤ n' then runW T G fr0 m0 r (done ++ [⟨⟨o.dst, v, newer n m', n, n'⟩, none, touch (frD (pickD (baseD done) o.pre) (dels fr0 o.hide)) o.op⟩]) n' else none
          | none => none
        | some (g, b) =>
          match get (frD (pickD (baseD done) o.pre) (dels fr0 o.hide)) g with
          | .bool t => if t = b then (match runO T G (frD (pickD (baseD done) o.pre) (dels fr0 o.hide)) (views (memD (pickD (baseD done) o.pre) m0)) n o.op with
              | some (v, m', n') => if n ≤ n' then runW T G fr0 m0 r (done ++ [⟨⟨o.dst, v, newer n m', n, n'⟩, none, touch (frD (pickD (baseD done) o.pre) (dels fr0 o.hide)) o.op⟩]) n' else none
              | none => none) else runW T G fr0 m0 r (done ++ [⟨⟨o.dst, .val undef, [], n, n⟩, none, some []⟩]) n
          | .val (.tuple _) => runW T G fr0 m0 r (done ++ [⟨⟨o.dst, .val undef, [], n, n⟩, none, some []⟩]) n
          | _ => none

theorem runW_ok {T : List (Nat × List SV)} {G : RunF} {call : CallT} (hG : RunOk G call) {fr0 : Fr} {m0 : Mem} : ∀ {ops : List Opr} {done : List DW} {n : Nat} {done' : List DW} {n' : Nat} {K : List DW → Nat → Prop},
    runW T G fr0 m0 ops done n = some (done', n') → K done' n' → exW T call fr0 m0 ops done n K
  | [], done, n, done', n', K, h, hK => by simp only [runW] at h; cases h; exact hK
  | o :: r, done, n, done', n', K, h, hK => by
    simp only [runW] at h
    unfold exW
    simp only
    split at h
    · split at h
      · rename_i hg
        split at h
        · rename_i b B hw
          split at h
          · rename_i hc
            split at h
            · rename_i hu
              have hu := untouchedB_ok hu
              unfold wrOp at hw
              split at hw
              · rename_i hop
                rw [hop]; simp only
                refine ⟨hg, ?_⟩
                split at hw
                · rename_i hab
                  simp only [hab]
                  split at hw
                  · rename_i hr
                    split at hw
                    · rename_i hl
                      split at hw
                      · split at hw
                        · cases hw; exact ⟨_, _, _, hr, hl, by assumption, by assumption, hc, hu, runW_ok hG h hK⟩
                        · cases hw
                      · cases hw
                    · cases hw
                  · cases hw
                · cases hw
              · rename_i hop
                rw [hop]; simp only
                refine ⟨hg, ?_⟩
                split at hw
                · rename_i hab
                  simp only [hab]
                  split at hw
                  · rename_i hks
                    split at hw
                    · rename_i hkv
                      split at hw
                      · rename_i he; subst he; cases hw
                        exact ⟨_, _, hks, hkv, hc, hu, runW_ok hG h hK⟩
                      · cases hw
                    · cases hw
                  · cases hw
                · cases hw
              · cases hw
            · cases h
          · cases h
        · cases h
      · cases h
    · rename_i hw
      split at h
      · cases h
      · rename_i hcl
        have hcl := clearB_ok hcl
        split
        · rename_i hop; rw [hop] at hw; cases hw
        · rename_i hop; rw [hop] at hw; cases hw
        refine ⟨hcl, ?_⟩
        split at h
        · split at h
          · rename_i hg _ v m1 n1 hr
            split at h
            · rename_i hle
              simp only [hg]
              exact exO_of_ev _ (runO_ok hG hr ⟨hle, runW_ok hG h hK⟩)
            · cases h
          · cases h
        · rename_i g b hg
          simp only [hg]
          split at h
          · rename_i t ht
            simp only [ht]
            split at h
            · rename_i htb
              subst htb
              split at h
              · rename_i v m1 n1 hr
                split at h
                · rename_i hle
                  exact ⟨fun _ => exO_of_ev _ (runO_ok hG hr ⟨hle, runW_ok hG h hK⟩), fun e => by cases t <;> cases e⟩
                · cases h
              · cases h
            · rename_i htb
              exact ⟨fun e => absurd e htb, fun _ => runW_ok hG h hK⟩
          · rename_i vs ht
            simp only [ht]
            exact runW_ok hG h hK
          · cases h

abbrev R4 := SX × Fr × Mem × Nat

def runL (body : Fr → Mem → Nat → Option R4) : Nat → Fr → Mem → Nat → Option R4
  | 0, _, _, _ => none
  | k + 1, fr, m, n => match body fr m n with
    | some (.normal, fr', m', n') => runL body k fr' m' n'
    | r => r

def runC (T : List (Nat × List SV)) (G : RunF) (u : Nat) : SC → Fr → Mem → Nat → Option R4
  | .skip, fr, m, n => some (.normal, fr, m, n)
  | .reg ops, fr, m, n => match runR T G ops fr m n with
    | some (fr', m', n') => some (.normal, fr', m', n')
    | none => none
  | .regP _ ops, fr, m, n => match runR T G ops fr m n with
    | some (fr', m', n') => some (.normal, fr', m', n')
    | none => none
  | .regD k ops, fr, m, n => match runA T G fr m (ops.take k) [] n with
    | some (done, n1) => match runR T G (ops.drop k) (dels (frD done.reverse fr) (kills (ops.take k))) (memD done.reverse m) n1 with
      | some (fr', m', n') => some (.normal, fr', m', n')
      | none => none
    | none => none
  | .regW k ops, fr, m, n => match runW T G fr m (ops.take k) [] n with
    | some (done, n1) => match runR T G (ops.drop k) (dels (frD (baseD done).reverse fr) (kills (ops.take k))) (updsW done (memD (baseD done).reverse m)) n1 with
      | some (fr', m', n') => some (.normal, fr', m', n')
      | none => none
    | none => none
  | .bad, _, _, _ => none
  | .seq a b, fr, m, n => match runC T G u a fr m n with
    | some (.normal, fr', m', n') => runC T G u b fr' m' n'
    | r => r
  | .cond x a b, fr, m, n => match x.ev fr with
    | .bool true => runC T G u a fr m n
    | .bool false => runC T G u b fr m n
    | _ => none
  | .block id c, fr, m, n => match runC T G u c fr m n with
    | some (.exit j, fr', m', n') => if j = id then some (.normal, fr', m', n') else some (.exit j, fr', m', n')
    | r => r
  | .loop c, fr, m, n => runL (runC T G u c) u fr m n
  | .exit id, fr, m, n => some (.exit id, fr, m, n)
  | .ret, fr, m, n => some (.ret, fr, m, n)

theorem runL_ok {n0 : Nat} {body : Fr → Mem → Nat → Option R4} {ex : Fr → Mem → Nat → Post → Prop}
    (hb : ∀ fr m n e fr' m' n' Q, body fr m n = some (e, fr', m', n') → Q e fr' m' n' → ex fr m n Q) : ∀ {u : Nat} {fr : Fr} {m : Mem} {n : Nat} {e : SX} {fr' : Fr} {m' : Mem} {n' : Nat} {Q : Post},
    runL body u fr m n = some (e, fr', m', n') → Q e fr' m' n' → e ≠ .normal → loopN n0 ex Q u fr m n
  | 0, fr, m, n, e, fr', m', n', Q, h, hQ, _ => by simp only [runL] at h; cases h
  | k + 1, fr, m, n, e, fr', m', n', Q, h, hQ, he => by
    simp only [runL] at h
    simp only [loopN]
    left
    split at h
    · rename_i fr1 m1 n1 h1
      exact hb _ _ _ _ _ _ _ _ h1 (runL_ok hb h hQ he)
    · refine hb _ _ _ _ _ _ _ _ h ?_
      unfold seqQ
      cases e with
      | normal => exact (he rfl).elim
      | exit j => exact hQ
      | ret => exact hQ

theorem runL_not {body : Fr → Mem → Nat → Option R4} : ∀ {u : Nat} {fr : Fr} {m : Mem} {n : Nat} {fr' : Fr} {m' : Mem} {n' : Nat}, runL body u fr m n ≠ some (.normal, fr', m', n')
  | 0, fr, m, n, fr', m', n' => by simp [runL]
  | k + 1, fr, m, n, fr', m', n' => by
    simp only [runL]
    split
    · exact runL_not
    · rename_i hne
      intro h
      exact hne _ _ _ h

theorem runC_ok {T : List (Nat × List SV)} {G : RunF} {call : CallT} (hG : RunOk G call) {n0 u : Nat} : ∀ (c : SC) {fr : Fr} {m : Mem} {n : Nat} {e : SX} {fr' : Fr} {m' : Mem} {n' : Nat} {Q : Post},
    runC T G u c fr m n = some (e, fr', m', n') → Q e fr' m' n' → exC T call n0 c fr m n Q := by
  intro c
  induction c with
  | skip => intro fr m n e fr' m' n' Q h hQ; simp only [runC] at h; cases h; exact hQ
  | reg ops =>
    intro fr m n e fr' m' n' Q h hQ
    simp only [runC] at h
    split at h
    · rename_i h1; cases h; simp only [exC]; exact runR_ok hG h1 hQ
    · cases h
  | regP k ops =>
    intro fr m n e fr' m' n' Q h hQ
    simp only [runC] at h
    split at h
    · rename_i h1; cases h; simp only [exC]; exact runR_ok hG h1 hQ
    · cases h
  | regD k ops =>
    intro fr m n e fr' m' n' Q h hQ
    simp only [runC] at h
    split at h
    · rename_i done n1 h1
      split at h
      · rename_i h2; cases h; simp only [exC]; exact runA_ok hG h1 (runR_ok hG h2 hQ)
      · cases h
    · cases h
  | regW k ops =>
    intro fr m n e fr' m' n' Q h hQ
    simp only [runC] at h
    split at h
    · rename_i done n1 h1
      split at h
      · rename_i h2; cases h; simp only [exC]; exact runW_ok hG h1 (runR_ok hG h2 hQ)
      · cases h
    · cases h
  | bad => intro fr m n e fr' m' n' Q h hQ; simp only [runC] at h; cases h
  | seq a b iha ihb =>
    intro fr m n e fr' m' n' Q h hQ
    simp only [runC] at h
    simp only [exC]
    split at h
    · rename_i fr1 m1 n1 h1
      exact iha h1 (ihb h hQ)
    · rename_i hne
      refine iha h ?_
      unfold seqQ
      cases e with
      | normal => exact (hne _ _ _ h).elim
      | exit j => exact hQ
      | ret => exact hQ
  | cond x a b iha ihb =>
    intro fr m n e fr' m' n' Q h hQ
    simp only [runC] at h
    simp only [exC, onBool]
    split at h
    · rename_i hx; simp only [hx]; exact ⟨fun _ => iha h hQ, fun h => by cases h⟩
    · rename_i hx; simp only [hx]; exact ⟨(fun h => by cases h), fun _ => ihb h hQ⟩
    · cases h
  | block id c ih =>
    intro fr m n e fr' m' n' Q h hQ
    simp only [runC] at h
    simp only [exC]
    split at h
    · rename_i j fr1 m1 n1 h1
      refine ih h1 ?_
      unfold blkQ
      simp only
      split at h
      · rename_i hj; rw [if_pos hj]; cases h; exact hQ
      · rename_i hj; rw [if_neg hj]; cases h; exact hQ
    · rename_i hne
      refine ih h ?_
      unfold blkQ
      cases e with
      | normal => exact hQ
      | exit j => exact (hne _ _ _ _ h).elim
      | ret => exact hQ
  | loop c ih =>
    intro fr m n e fr' m' n' Q h hQ
    simp only [runC] at h
    simp only [exC]
    have hne : e ≠ .normal := fun he => by subst he; exact runL_not h
    exact ⟨u, runL_ok (ex := exC T call n0 c) (fun fr m n e fr' m' n' Q h hQ => ih h hQ) h hQ hne⟩
  | exit id => intro fr m n e fr' m' n' Q h hQ; simp only [runC] at h; cases h; exact hQ
  | ret => intro fr m n e fr' m' n' Q h hQ; simp only [runC] at h; cases h; exact hQ

def noG : RunF := fun _ _ _ _ => none
def runRes (T : List (Nat × List SV)) (fr : Fr) : List RV → Mem → Nat → Option (List SV × Mem × Nat)
  | [], m, n => some ([], m, n)
  | .t d :: r, m, n => match runRes T fr r m n with
    | some (l, m', n') => some (get fr d :: l, m', n')
    | none => none
  | .c d g :: r, m, n => match runO T noG fr m n (.load g (.t d)) with
    | some (v, m1, n1) => match runRes T fr r m1 n1 with
      | some (l, m', n') => some (v :: l, m', n')
      | none => none
    | none => none

theorem runRes_ok {T : List (Nat × List SV)} {fr : Fr} : ∀ {rs : List RV} {m : Mem} {n : Nat} {l : List SV} {m' : Mem} {n' : Nat} {K : List SV → Mem → Nat → Prop},
    runRes T fr rs m n = some (l, m', n') → K l m' n' → exRes T fr rs m n K
  | [], m, n, l, m', n', K, h, hK => by simp only [runRes] at h; cases h; exact hK
  | .t d :: r, m, n, l, m', n', K, h, hK => by
    simp only [runRes] at h
    simp only [exRes]
    split at h
    · rename_i h1; cases h; exact runRes_ok h1 hK
    · cases h
  | .c d g :: r, m, n, l, m', n', K, h, hK => by
    simp only [runRes] at h
    simp only [exRes]
    split at h
    · rename_i h0
      split at h
      · rename_i h1; cases h
        exact exO_of_ev _ (runO_ok (G := noG) (fun f args m n v m' n' K h _ => by cases h) h0 (runRes_ok h1 hK))
      · cases h
    · cases h

/-- a memory, the youngest block first; or of different blocks at least -/
def decM : Nat → Mem → Bool
  | _, [] => true
  | n, (i, B) :: r => Nat.blt i n && decM i r
def hasK (i : Nat) : Mem → Bool
  | [] => false
  | (j, _) :: r => Nat.beq j i || hasK i r
def difM (n : Nat) : Mem → Bool
  | [] => true
  | (i, B) :: r => Nat.blt i n && !(hasK i r) && difM n r
def okM (n : Nat) (m : Mem) : Bool := decM n m || difM n m

structure Good (n : Nat) (m : Mem) : Prop where
  lt : ∀ i B, (i, B) ∈ m → i < n
  nd : m.Pairwise fun x y => x.1 ≠ y.1

theorem decM_lt : ∀ {m : Mem} {n : Nat}, decM n m = true → ∀ i B, (i, B) ∈ m → i < n
  | (j, B') :: r, n, h, i, B, hi => by
    simp only [decM, Bool.and_eq_true, Nat.blt_eq] at h
    rcases List.mem_cons.1 hi with e | e
    · cases e; exact h.1
    · have := decM_lt h.2 i B e; omega
theorem hasK_mem {i : Nat} : ∀ {m : Mem}, hasK i m = false → ∀ x ∈ m, x.1 ≠ i
  | (j, B) :: r, h, x, hx => by
    simp only [hasK, Bool.or_eq_false_iff] at h
    rcases List.mem_cons.1 hx with e | e
    · subst e
      intro e
      have := h.1
      simp only at e
      rw [e, Nat.beq_refl] at this; cases this
    · exact hasK_mem h.2 x e
theorem okM_good {n : Nat} {m : Mem} (h : okM n m = true) : Good n m := by
  simp only [okM, Bool.or_eq_true] at h
  rcases h with h | h
  · refine ⟨decM_lt h, ?_⟩
    induction m generalizing n with
    | nil => exact List.Pairwise.nil
    | cons x r ih =>
      obtain ⟨i, B⟩ := x
      simp only [decM, Bool.and_eq_true, Nat.blt_eq] at h
      refine List.Pairwise.cons (fun y hy => ?_) (ih h.2)
      have := decM_lt h.2 y.1 y.2 hy
      simp only; omega
  · induction m with
    | nil => exact ⟨by simp, List.Pairwise.nil⟩
    | cons x r ih =>
      obtain ⟨i, B⟩ := x
      simp only [difM, Bool.and_eq_true, Nat.blt_eq, Bool.not_eq_true'] at h
      have hr := ih h.2
      refine ⟨fun j B' hj => ?_, List.Pairwise.cons (fun y hy => (hasK_mem h.1.2 y hy).symm) hr.nd⟩
      rcases List.mem_cons.1 hj with e | e
      · cases e; exact h.1.1
      · exact hr.lt j B' e

theorem Good.tail {n : Nat} {x : Nat × Blk} {r : Mem} (h : Good n (x :: r)) : Good n r :=
  ⟨fun i B hi => h.lt i B (List.mem_cons_of_mem _ hi), (List.pairwise_cons.1 h.nd).2⟩
theorem Good.head {n : Nat} {x : Nat × Blk} {r : Mem} (h : Good n (x :: r)) : ∀ y ∈ r, x.1 ≠ y.1 := (List.pairwise_cons.1 h.nd).1
theorem Good.filter {n : Nat} {m : Mem} (h : Good n m) (p : Nat × Blk → Bool) : Good n (m.filter p) :=
  ⟨fun i B hi => h.lt i B (List.mem_filter.1 hi).1, h.nd.filter p⟩
theorem Good.mem {n : Nat} : ∀ {m : Mem}, Good n m → ∀ {i : Nat} {B : Blk}, (i, B) ∈ m → rd m i = some B
  | (j, B') :: r, h, i, B, hi => by
    rcases List.mem_cons.1 hi with e | e
    · cases e; unfold rd; rw [if_pos rfl]
    · have := h.head _ e
      unfold rd
      rw [if_neg this]; exact h.tail.mem e

theorem eta_id {k n : Nat} (h : k ≤ n) {i : Nat} (hi : i < k) : eta (idHs k) n i = (i, 0) := by
  unfold eta; rw [idHs_get hi]; rfl
theorem eta_all {n i : Nat} : eta (idHs n) n i = (i, 0) := by
  by_cases h : i < n
  · exact eta_id (Nat.le_refl _) h
  · rw [eta_ge (by rw [idHs_len]; omega), idHs_len]; congr 1; omega

theorem compat_id {n : Nat} : ∀ {m0 m : Mem}, (∀ i B, (i, B) ∈ m0 → rd m i = some B) → compat (eta (idHs n) n) m m0
  | [], m, h => trivial
  | (i, B) :: r, m, h => by
    simp only [compat]
    refine ⟨⟨B, by rw [eta_all]; exact h i B List.mem_cons_self, ?_⟩, compat_id fun j B' hj => h j B' (List.mem_cons_of_mem _ hj)⟩
    have hren : B.cells = SV.renL (eta (idHs n) n) B.cells := (SV.renL_id _ (fun i => eta_all) _).symm
    cases hk : B.kind with
    | view => simp only; rw [eta_all, ← hren]; simp
    | own e => simp only; exact ⟨by rw [eta_all], trivial, hren⟩
    | map a ks => simp only; exact ⟨by rw [eta_all], trivial, hren⟩

theorem apartM_id {n k : Nat} : ∀ {m : Mem}, Good k m → apartM (eta (idHs n) n) m
  | [], h => trivial
  | (i, B) :: r, h => by
    simp only [apartM]
    refine ⟨fun x hx _ => ?_, apartM_id h.tail⟩
    rw [eta_all, eta_all]; exact h.head x hx

theorem keysBelow_id {n : Nat} : ∀ {m : Mem}, Good n m → keysBelow n m
  | [], h => trivial
  | (i, B) :: r, h => by
    simp only [keysBelow]
    exact ⟨h.lt i B List.mem_cons_self, keysBelow_id h.tail⟩

theorem zeroSh_id {n : Nat} : ∀ {m : Mem}, zeroSh (eta (idHs n) n) m
  | [] => trivial
  | (i, B) :: r => by
    simp only [zeroSh]
    exact ⟨fun _ => by rw [eta_all], zeroSh_id⟩

def ownPart : Mem → Mem
  | [] => []
  | (i, B) :: r => match B.kind.isOwn with
    | true => (i, B) :: ownPart r
    | false => ownPart r
def viewPart : Mem → Mem
  | [] => []
  | (i, B) :: r => match B.kind.isOwn with
    | true => viewPart r
    | false => (i, B) :: viewPart r

theorem newOwn_id {n : Nat} : ∀ {m : Mem}, newOwn (eta (idHs n) n) m = ownPart m
  | [] => rfl
  | (i, B) :: r => by
    simp only [newOwn, ownPart, eta_all, newOwn_id]
    rw [SV.renL_id _ (fun i => eta_all)]
    cases B.kind.isOwn <;> rfl

theorem targets_id {n : Nat} : ∀ {m : Mem}, targets (eta (idHs n) n) m = (ownPart m).map (·.1)
  | [] => rfl
  | (i, B) :: r => by
    simp only [targets, ownPart, eta_all, targets_id]
    cases B.kind.isOwn <;> rfl

theorem ownPart_mem : ∀ {m : Mem} {i : Nat}, i ∈ (ownPart m).map (·.1) → ∃ B, (i, B) ∈ m
  | (j, B) :: r, i, h => by
    unfold ownPart at h
    split at h
    · simp only [List.map_cons, List.mem_cons] at h
      rcases h with h | h
      · exact ⟨B, by rw [h]; exact List.mem_cons_self⟩
      · obtain ⟨B', h'⟩ := ownPart_mem h; exact ⟨B', List.mem_cons_of_mem _ h'⟩
    · obtain ⟨B', h'⟩ := ownPart_mem h; exact ⟨B', List.mem_cons_of_mem _ h'⟩
  | [], i, h => by simp [ownPart] at h

theorem rm_none : ∀ {m : Mem} {t : Nat}, (∀ B, (t, B) ∉ m) → rm m t = m
  | [], t, _ => rfl
  | (j, B) :: r, t, h => by
    unfold rm
    rw [if_neg (fun e => h B (by rw [← e]; exact List.mem_cons_self)), rm_none fun B' hB' => h B' (List.mem_cons_of_mem _ hB')]

theorem rms_cons_view {i : Nat} {B : Blk} : ∀ {ts : List Nat} {r : Mem}, i ∉ ts → rms ((i, B) :: r) ts = (i, B) :: rms r ts
  | [], r, _ => rfl
  | t :: ts, r, h => by
    simp only [List.mem_cons, not_or] at h
    simp only [rms]
    have : rm ((i, B) :: r) t = (i, B) :: rm r t := by
      conv => lhs; unfold rm
      rw [if_neg h.1]
    rw [this, rms_cons_view h.2]

theorem rms_own : ∀ {m : Mem} {k : Nat}, Good k m → rms m ((ownPart m).map (·.1)) = viewPart m
  | [], k, h => rfl
  | (i, B) :: r, k, h => by
    have hni : ∀ B', (i, B') ∉ r := fun B' hB' => h.head _ hB' rfl
    simp only [ownPart, viewPart]
    split
    · simp only [List.map_cons, rms]
      have : rm ((i, B) :: r) i = r := by
        unfold rm
        rw [if_pos rfl, rm_none hni]
      rw [this, rms_own h.tail]
    · have hn : i ∉ (ownPart r).map (·.1) := fun hi => by
        obtain ⟨B', hB'⟩ := ownPart_mem hi
        exact hni B' hB'
      rw [rms_cons_view hn, rms_own h.tail]

theorem callT_id {P : Program} {T : List (Nat × List SV)} {f : FuncId} {args : List SV} {m : Mem} {n : Nat} {r : SV} {m1 : Mem} {n1 : Nat} {K : Kt}
    (F : Fun P T f args m n r m1 n1) (hm : Good n m) (hK : K r (ownPart m1 ++ viewPart m) n1) : callT P T f args m n K := by
  refine ⟨idHs n, args, m, r, m1, n1, by rw [idHs_len]; exact F, (SV.renL_id _ (fun i => eta_all) _).symm, ?_, apartM_id hm, by rw [idHs_len]; exact keysBelow_id hm, ?_, zeroSh_id, ?_⟩
  · exact compat_id fun i B hi => hm.mem hi
  · intro h hh
    obtain ⟨i, hi, rfl⟩ := List.getElem_of_mem hh
    rw [idHs_len] at hi
    have := idHs_get hi
    rw [List.getElem?_eq_getElem (by rw [idHs_len]; exact hi)] at this
    simp only [Option.some.injEq] at this
    rw [this]; exact hi
  · rw [newOwn_id, targets_id, rms_own hm, SV.ren_id _ (fun i => eta_all), idHs_len]
    have := F.le
    rw [show n + (n1 - n) = n1 by omega]
    exact hK

mutual
def SV.refs : SV → List Nat
  | .ptr i _ => [i]
  | .slc i _ _ _ _ => [i]
  | .mp i => [i]
  | .fn _ xs bs => SV.refsL xs ++ SV.refsL bs
  | .agg l => SV.refsL l
  | .tup l => SV.refsL l
  | _ => []
def SV.refsL : List SV → List Nat
  | [] => []
  | a :: l => match SV.refs a with
    | [] => SV.refsL l
    | x :: xs => x :: xs ++ SV.refsL l
end
def memN : List Nat → Nat → Bool
  | [], _ => false
  | a :: l, x => match Nat.beq a x with
    | true => true
    | false => memN l x
/-- the blocks that are kept behind a call -/
def gcRoots (n : Nat) (r : SV) : Mem → List Nat
  | [] => SV.refs r
  | (i, B) :: m => match Nat.blt i n with
    | true => SV.refsL B.cells ++ gcRoots n r m
    | false => gcRoots n r m
def gcStep (m : Mem) (roots : List Nat) : List Nat :=
  match m with
  | [] => roots
  | (i, B) :: m => match memN roots i with
    | true => gcStep m (SV.refsL B.cells ++ roots)
    | false => gcStep m roots
def gcAll (n : Nat) (r : SV) (m : Mem) : Mem :=
  let roots := gcStep m (gcStep m (gcRoots n r m))
  m.filter fun x => Nat.blt x.1 n || memN roots x.1

def closeR (n : Nat) (r : SV) (m : Mem) (n3 : Nat) : Option R3 :=
  match okM n3 m with
  | true => match gcAll n r m with
    | [] => match r.flat with
      | true => some (r, [], n)
      | false => none
    | x :: m1 => match Nat.ble n n3 with
      | true => some (r, x :: m1, n3)
      | false => none
  | false => none

def backR (m : Mem) : Option R3 → Option R3
  | some (r, m1, n1) => some (r, ownPart m1 ++ viewPart m, n1)
  | none => none
theorem backR_some {m : Mem} {o : Option R3} {r : SV} {m' : Mem} {n' : Nat} (h : backR m o = some (r, m', n')) : ∃ m1, o = some (r, m1, n') ∧ m' = ownPart m1 ++ viewPart m := by
  unfold backR at h
  split at h
  · cases h; exact ⟨_, rfl, rfl⟩
  · cases h

def runF (Tb : FuncId → Option SF) (T : List (Nat × List SV)) (X : RunF) (u : Nat) : Nat → RunF
  | 0 => noG
  | d + 1 => fun f args m n => match X f args m n with
    | some r => some r
    | none => match Tb f with
      | none => none
      | some sf => match okM n m with
        | true => match Nat.ble args.length sf.n with
          | true => match runC T (runF Tb T X u d) u sf.body (frOf 0 args) m n with
            | some (.exit _, _, _, _) => none
            | some (.normal, fr, m2, n2) => match runRes T fr sf.res m2 n2 with
              | some (l, m3, n3) => backR m (closeR n (retOf l) m3 n3)
              | none => none
            | some (.ret, fr, m2, n2) => match runRes T fr sf.res m2 n2 with
              | some (l, m3, n3) => backR m (closeR n (retOf l) m3 n3)
              | none => none
            | none => none
          | false => none
        | false => none

def TbOk (P : Program) (Tb : FuncId → Option SF) : Prop := ∀ f sf, Tb f = some sf → chkF P f sf = true

theorem idHs_take {n k : Nat} (h : n ≤ k) : (idHs k).take n = idHs n := by
  apply List.ext_getElem?
  intro i
  by_cases hi : i < n
  · rw [List.getElem?_take_of_lt hi, idHs_get hi, idHs_get (by omega)]
  · rw [List.getElem?_eq_none (by simp [idHs_len]; omega), List.getElem?_eq_none (by rw [idHs_len]; omega)]

theorem closeR_ok {n : Nat} {r : SV} {m : Mem} {n3 : Nat} {r' : SV} {m1 : Mem} {n1 : Nat} (h : closeR n r m n3 = some (r', m1, n1)) :
    r' = r ∧ n ≤ n1 ∧ ∃ hs, EntM n m n3 hs m1 n1 ∧ r = r.ren (eta hs n3) := by
  unfold closeR at h
  split at h
  · rename_i hok
    split at h
    · split at h
      · rename_i hf
        cases h
        exact ⟨rfl, Nat.le_refl _, idHs n, ⟨idHs_len n, Nat.le_refl _, by rw [List.take_of_length_le (by rw [idHs_len]; exact Nat.le_refl _)], trivial, trivial, trivial⟩, (SV.flat_ren _ _ hf).symm⟩
      · cases h
    · rename_i x m1 hgc
      split at h
      · rename_i hle
        cases h
        have hle := Nat.le_of_ble_eq_true hle
        have hok := okM_good hok
        have hsub : Good n3 (x :: m1) := by rw [← hgc]; exact hok.filter _
        refine ⟨rfl, hle, idHs n3, ⟨idHs_len _, hle, idHs_take hle, ?_, apartM_id hsub, keysBelow_id hsub⟩, (SV.ren_id _ (fun i => eta_all) _).symm⟩
        refine compat_id fun i B hi => ?_
        have hin : (i, B) ∈ m := by rw [← hgc] at hi; exact (List.mem_filter.1 hi).1
        exact hok.mem hin
      · cases h
  · cases h

theorem runF_fun {P : Program} {T : List (Nat × List SV)} {Tb : FuncId → Option SF} (hT : TbOk P Tb) {G : RunF} (hG : RunOk G (callT P T)) {u : Nat} {f : FuncId} {sf : SF} {args : List SV} {m : Mem} {n : Nat}
    {e : SX} {fr : Fr} {m2 : Mem} {n2 : Nat} {l : List SV} {m3 : Mem} {n3 : Nat} {r : SV} {m1 : Mem} {n1 : Nat} (hf : Tb f = some sf) (hl : args.length ≤ sf.n)
    (hr : runC T G u sf.body (frOf 0 args) m n = some (e, fr, m2, n2)) (he : ∀ j, e ≠ .exit j) (h3 : runRes T fr sf.res m2 n2 = some (l, m3, n3)) (hc : closeR n (retOf l) m3 n3 = some (r, m1, n1)) :
    Fun P T f args m n r m1 n1 := by
  obtain ⟨rfl, h1, hs, h4, h5⟩ := closeR_ok hc
  refine fun_of_exec (hT f sf hf) hl h1 (runC_ok hG _ hr ?_)
  unfold fin
  cases e with
  | exit j => exact (he j rfl).elim
  | normal => exact runRes_ok h3 ⟨hs, h4, h5⟩
  | ret => exact runRes_ok h3 ⟨hs, h4, h5⟩

theorem runF_ok {P : Program} {T : List (Nat × List SV)} {Tb : FuncId → Option SF} (hT : TbOk P Tb) {X : RunF} (hX : RunOk X (callT P T)) {u : Nat} : ∀ d, RunOk (runF Tb T X u d) (callT P T)
  | 0 => fun f args m n v m' n' K h _ => by cases h
  | d + 1 => fun f args m n v m' n' K h hK => by
    simp only [runF] at h
    split at h
    · rename_i r hr
      cases h
      exact hX _ _ _ _ _ _ _ _ hr hK
    · split at h
      · cases h
      · rename_i sf hf
        split at h
        · rename_i hm
          split at h
          · rename_i hl
            have hl := Nat.le_of_ble_eq_true hl
            split at h
            · cases h
            · rename_i hr
              split at h
              · rename_i h3
                obtain ⟨m1, hc, rfl⟩ := backR_some h
                exact callT_id (runF_fun hT (runF_ok hT hX d) hf hl hr (fun j => by simp) h3 hc) (okM_good hm) hK
              · cases h
            · rename_i hr
              split at h
              · rename_i h3
                obtain ⟨m1, hc, rfl⟩ := backR_some h
                exact callT_id (runF_fun hT (runF_ok hT hX d) hf hl hr (fun j => by simp) h3 hc) (okM_good hm) hK
              · cases h
            · cases h
          · cases h
        · cases h
end Go.Sx

/- The engine, part Rc: contracts of functions of values and slices, for the runner. -/
namespace Go.Sx
open Go
set_option linter.unusedSimpArgs false
set_option linter.unusedVariables false

def belowB (n : Nat) : List (Nat × Nat) → Bool
  | [] => true
  | h :: r => Nat.blt h.1 n && belowB n r
theorem belowB_ok {n : Nat} : ∀ {hs : List (Nat × Nat)}, belowB n hs = true → belowL n hs
  | [], _ => trivial
  | h :: r, hb => by
    simp only [belowB, Bool.and_eq_true, Nat.blt_eq] at hb
    exact ⟨hb.1, belowB_ok hb.2⟩
def apB1 (t : Nat) (o : Bool) : List (Nat × Nat) → Mem → Bool
  | h :: hs, (_, B) :: r => (!(o || B.kind.isOwn) || !(Nat.beq t h.1)) && apB1 t o hs r
  | _, _ => true
def apB : List (Nat × Nat) → Mem → Bool
  | h :: hs, (_, B) :: r => apB1 h.1 B.kind.isOwn hs r && apB hs r
  | _, _ => true
theorem apB1_ok {t : Nat} {o : Bool} : ∀ {hs : List (Nat × Nat)} {m : Mem}, apB1 t o hs m = true → apH1 t o hs m
  | h :: hs, (_, B) :: r, hb => by
    simp only [apB1, Bool.and_eq_true, Bool.or_eq_true, Bool.not_eq_true'] at hb
    refine ⟨fun ho e => ?_, apB1_ok hb.2⟩
    rcases hb.1 with h1 | h1
    · rw [ho] at h1; cases h1
    · rw [e, Nat.beq_refl] at h1; cases h1
  | [], _, _ => by simp [apH1]
  | _ :: _, [], _ => by simp [apH1]
theorem apB_ok : ∀ {hs : List (Nat × Nat)} {m : Mem}, apB hs m = true → apH hs m
  | h :: hs, (_, B) :: r, hb => by
    simp only [apB, Bool.and_eq_true] at hb
    exact ⟨apB1_ok hb.1, apB_ok hb.2⟩
  | [], _, _ => by simp [apH]
  | _ :: _, [], _ => by simp [apH]

def runS (S : List (FuncId × GS)) : RunF := fun f args m n =>
  match lookF S f with
  | some g => match canLW (canV m 4) 0 args with
    | some (a0, hs, m0) => match belowB n hs with
      | true => match apB hs m0 with
        | true => match g a0 m0 with
          | some (r0, m1, n1) => some (r0.ren (eta hs n), newOwn (eta hs n) m1 ++ rms m (targets (eta hs n) m0), n + (n1 - hs.length))
          | none => none
        | false => none
      | false => none
    | none => none
  | none => none

theorem runS_ok {P : Program} {T : List (Nat × List SV)} {S : List (FuncId × GS)} (hS : ∀ x ∈ S, FunS P T x.1 x.2) : RunOk (runS S) (callT P T) := by
  intro f args m n v m' n' K h hK
  unfold runS at h
  split at h
  · rename_i g hg
    split at h
    · rename_i a0 hs m0 hcan
      split at h
      · rename_i hb
        split at h
        · rename_i hap
          split at h
          · rename_i hr
            cases h
            exact callS_one (hS _ (lookF_mem hg)) hcan (belowB_ok hb) (apB_ok hap) hr hK
          · cases h
        · cases h
      · cases h
    · cases h
  · cases h
end Go.Sx

/- The tables that the program reads: the round constants of SHA-256. -/
namespace Go.Proofs.YtkfbkooobfepeaaDoor
open Go Go.Sx
def u32 (n : Int) : SV := .int .u32 n
/-- the round constants -/
def kc : List Int := [0x428a2f98, 0x71374491, 0xb5c0fbcf, 0xe9b5dba5, 0x3956c25b, 0x59f111f1, 0x923f82a4, 0xab1c5ed5,
  0xd807aa98, 0x12835b01, 0x243185be, 0x550c7dc3, 0x72be5d74, 0x80deb1fe, 0x9bdc06a7, 0xc19bf174,
  0xe49b69c1, 0xefbe4786, 0x0fc19dc6, 0x240ca1cc, 0x2de92c6f, 0x4a7484aa, 0x5cb0a9dc, 0x76f988da,
  0x983e5152, 0xa831c66d, 0xb00327c8, 0xbf597fc7, 0xc6e00bf3, 0xd5a79147, 0x06ca6351, 0x14292967,
  0x27b70a85, 0x2e1b2138, 0x4d2c6dfc, 0x53380d13, 0x650a7354, 0x766a0abb, 0x81c2c92e, 0x92722c85,
  0xa2bfe8a1, 0xa81a664b, 0xc24b8b70, 0xc76c51a3, 0xd192e819, 0xd6990624, 0xf40e3585, 0x106aa070,
  0x19a4c116, 0x1e376c08, 0x2748774c, 0x34b0bcb5, 0x391c0cb3, 0x4ed8aa4a, 0x5b9cca4f, 0x682e6ff3,
  0x748f82ee, 0x78a5636f, 0x84c87814, 0x8cc70208, 0x90befffa, 0xa4506ceb, 0xbef9a3f7, 0xc67178f2]
def tH : List (Nat × List SV) := [(0, kc.map u32)]
end Go.Proofs.YtkfbkooobfepeaaDoor

/- The sanity of the laws, carried out. -/
namespace Go.Proofs.YtkfbkooobfepeaaDoor
open Go Go.Sx Sf
set_option maxRecDepth 100000
set_option linter.unusedSimpArgs false
set_option linter.unusedVariables false

/-- the functions that are reached -/
def tbL : List (FuncId × SF) := [(9, sf9), (10, sf10), (12, sf12), (14, sf14), (15, sf15), (16, sf16), (18, sf18), (20, sf20), (22, sf22), (24, sf24), (26, sf26), (28, sf28), (29, sf29), (30, sf30), (31, sf31), (32, sf32), (33, sf33), (34, sf34), (39, sf39), (41, sf41), (43, sf43), (44, sf44), (45, sf45), (46, sf46), (47, sf47), (51, sf51), (52, sf52), (53, sf53), (54, sf54), (57, sf57), (58, sf58), (59, sf59), (60, sf60), (61, sf61), (69, sf69), (70, sf70), (75, sf75), (76, sf76), (85, sf85)]
def tb : FuncId → Option SF := lookF tbL
theorem tb_ok : TbOk Tryd.prog tb := by
  intro f sf h
  have hm := lookF_mem h
  simp only [tbL, List.mem_cons, Prod.mk.injEq, List.not_mem_nil, or_false] at hm
  rcases hm with ⟨rfl, rfl⟩ | ⟨rfl, rfl⟩ | ⟨rfl, rfl⟩ | ⟨rfl, rfl⟩ | ⟨rfl, rfl⟩ | ⟨rfl, rfl⟩ | ⟨rfl, rfl⟩ | ⟨rfl, rfl⟩ | ⟨rfl, rfl⟩ | ⟨rfl, rfl⟩ | ⟨rfl, rfl⟩ | ⟨rfl, rfl⟩ | ⟨rfl, rfl⟩ | ⟨rfl, rfl⟩ | ⟨rfl, rfl⟩ | ⟨rfl, rfl⟩ | ⟨rfl, rfl⟩ | ⟨rfl, rfl⟩ | ⟨rfl, rfl⟩ | ⟨rfl, rfl⟩ | ⟨rfl, rfl⟩ | ⟨rfl, rfl⟩ | ⟨rfl, rfl⟩ | ⟨rfl, rfl⟩ | ⟨rfl, rfl⟩ | ⟨rfl, rfl⟩ | ⟨rfl, rfl⟩ | ⟨rfl, rfl⟩ | ⟨rfl, rfl⟩ | ⟨rfl, rfl⟩ | ⟨rfl, rfl⟩ | ⟨rfl, rfl⟩ | ⟨rfl, rfl⟩ | ⟨rfl, rfl⟩ | ⟨rfl, rfl⟩ | ⟨rfl, rfl⟩ | ⟨rfl, rfl⟩ | ⟨rfl, rfl⟩ | ⟨rfl, rfl⟩
  · exact chk9
  · exact chk10
  · exact chk12
  · exact chk14
  · exact chk15
  · exact chk16
  · exact chk18
  · exact chk20
  · exact chk22
  · exact chk24
  · exact chk26
  · exact chk28
  · exact chk29
  · exact chk30
  · exact chk31
  · exact chk32
  · exact chk33
  · exact chk34
  · exact chk39
  · exact chk41
  · exact chk43
  · exact chk44
  · exact chk45
  · exact chk46
  · exact chk47
  · exact chk51
  · exact chk52
  · exact chk53
  · exact chk54
  · exact chk57
  · exact chk58
  · exact chk59
  · exact chk60
  · exact chk61
  · exact chk69
  · exact chk70
  · exact chk75
  · exact chk76
  · exact chk85
end Go.Proofs.YtkfbkooobfepeaaDoor

/- The engine, part Xa: words of 32 bits, and bytes. -/
namespace Go.Sx
open Go
set_option linter.unusedSimpArgs false
set_option linter.unusedVariables false

abbrev W32 := BitVec 32
/-- a word as a value -/
def w32 (x : W32) : SV := .int .u32 (x.toNat : Int)

theorem wrapU32 (n : Int) : IntKind.u32.wrap n = n % 4294967296 := by
  simp [IntKind.wrap, IntKind.bits, IntKind.signed]
theorem wrapU32_nat (n : Nat) : IntKind.u32.wrap (n : Int) = ((n % 4294967296 : Nat) : Int) := by rw [wrapU32]; simp
theorem w_lt (x : W32) : x.toNat < 4294967296 := x.isLt

theorem w_wrap (x : W32) : IntKind.u32.wrap (x.toNat : Int) = (x.toNat : Int) := by
  rw [wrapU32_nat, Nat.mod_eq_of_lt (w_lt x)]
theorem w_add (x y : W32) : IntKind.u32.wrap ((x.toNat : Int) + (y.toNat : Int)) = ((x + y).toNat : Int) := by
  rw [BitVec.toNat_add, ← Int.natCast_add, wrapU32_nat]
theorem ofInt_w (x : W32) : BitVec.ofInt IntKind.u32.bits (x.toNat : Int) = x := by
  show BitVec.ofInt 32 (x.toNat : Int) = x
  simp
theorem w_and (x y : W32) : bitop .and .u32 (x.toNat : Int) (y.toNat : Int) = ((x &&& y).toNat : Int) := by
  unfold bitop; simp only [ofInt_w]; exact w_wrap (x &&& y)
theorem w_or (x y : W32) : bitop .or .u32 (x.toNat : Int) (y.toNat : Int) = ((x ||| y).toNat : Int) := by
  unfold bitop; simp only [ofInt_w]; exact w_wrap (x ||| y)
theorem w_xor (x y : W32) : bitop .xor .u32 (x.toNat : Int) (y.toNat : Int) = ((x ^^^ y).toNat : Int) := by
  unfold bitop; simp only [ofInt_w]; exact w_wrap (x ^^^ y)
theorem w_not (x : W32) : bitop .xor .u32 (if IntKind.u32.signed then -1 else IntKind.u32.max) (x.toNat : Int) = ((~~~x).toNat : Int) := by
  have h : (if IntKind.u32.signed then (-1 : Int) else IntKind.u32.max) = (((-1 : W32).toNat : Nat) : Int) := by decide
  rw [h, w_xor]
  congr 2
theorem w_shl (x : W32) (s : Nat) (h : s ≤ 32) : IntKind.u32.wrap ((x.toNat : Int) * 2 ^ (min s IntKind.u32.bits)) = ((x <<< s).toNat : Int) := by
  have : min s IntKind.u32.bits = s := Nat.min_eq_left (by show s ≤ 32; exact h)
  rw [this, BitVec.toNat_shiftLeft, Nat.shiftLeft_eq]
  have : ((x.toNat : Int) * 2 ^ s) = ((x.toNat * 2 ^ s : Nat) : Int) := by simp
  rw [this, wrapU32_nat]
theorem w_shr (x : W32) (s : Nat) (h : s ≤ 32) : ((x.toNat : Int).fdiv (2 ^ (min s IntKind.u32.bits))) = ((x >>> s).toNat : Int) := by
  have : min s IntKind.u32.bits = s := Nat.min_eq_left (by show s ≤ 32; exact h)
  rw [this, BitVec.toNat_ushiftRight, Nat.shiftRight_eq_div_pow]
  have : ((2 : Int) ^ s) = ((2 ^ s : Nat) : Int) := by simp
  rw [this]
  exact Int.ofNat_fdiv _ _ |>.symm

/-- a word turned right -/
def rotr (r : Nat) (x : W32) : W32 := x <<< (32 - r) ||| x >>> r
end Go.Sx

/- SHA-256 of package hash: the rotations. -/
namespace Go.Proofs.YtkfbkooobfepeaaDoor
open Go Go.Sx Sf
set_option maxRecDepth 100000
set_option linter.unusedSimpArgs false
set_option linter.unusedVariables false

variable {tS : List (Nat × List SV)}
def tab0 : Tab := ⟨[], []⟩
theorem tab0_ok : TabX Tryd.prog tS tab0 := ⟨fun x h => by simp [tab0] at h, fun x h => by simp [tab0] at h⟩

theorem rot_amt {r : Nat} (h1 : 1 ≤ r) (h2 : r ≤ 31) : bitop .and .u64 (IntKind.u64.wrap (-(r : Int))) 31 = ((32 - r : Nat) : Int) ∧
    IntKind.u64.wrap (32 - ((32 - r : Nat) : Int)) = (r : Int) := by
  have : ∀ r : Fin 32, 1 ≤ r.val → bitop .and .u64 (IntKind.u64.wrap (-(r.val : Int))) 31 = ((32 - r.val : Nat) : Int) ∧ IntKind.u64.wrap (32 - ((32 - r.val : Nat) : Int)) = (r.val : Int) := by decide
  exact this ⟨r, by omega⟩ h1

/-- a turn to the right, of whatever number -/
def rotI (n : Int) (r : Nat) : Int := bitop .or .u32 (IntKind.u32.wrap (n * 2 ^ (min (32 - r) IntKind.u32.bits))) (n.fdiv (2 ^ (min r IntKind.u32.bits)))
theorem rotI_w (x : W32) (r : Nat) (h2 : r ≤ 32) : rotI (x.toNat : Int) r = ((rotr r x).toNat : Int) := by
  unfold rotI
  rw [w_shl x (32 - r) (by omega), w_shr x r h2, w_or]; rfl
theorem f104 (n : Int) (r : Nat) (h1 : 1 ≤ r) (h2 : r ≤ 31) : Fun Tryd.prog tS 104 [.int .u32 n, .int .i64 (-(r : Int))] [] 0 (.int .u32 (rotI n r)) [] 0 := by
  refine fun_pure none (callX tab0) (callX_ok tab0_ok) chk104 (show 2 ≤ 17 by decide) (fun _ => rfl) ?_
  unfold sf104
  obtain ⟨e1, e2⟩ := rot_amt h1 h2
  have e3 : (0 : Int) ≤ ((32 - r : Nat) : Int) := by omega
  have e4 : (0 : Int) ≤ (r : Int) := by omega
  have t1 : ((32 - r : Nat) : Int).toNat = 32 - r := by omega
  have t2 : ((r : Nat) : Int).toNat = r := by omega
  simp (config := { maxSteps := 1000000 }) only [e1, e2, e3, e4, t1, t2, rotI, tab0, SV.flatL, SV.flat, Bool.and_true, Bool.and_self, Bool.true_and, beq_self_eq_true, Int.reduceGE, Int.reduceGT, ↓u_callAnd, Blk.mk.injEq, List.cons.injEq, SV.int.injEq, SV.bool.injEq, SV.tup.injEq, SV.agg.injEq, and_self, undef, Int.reduceBNe, Int.reduceBEq, Nat.reduceBNe, Nat.reduceBEq, ↓u_callX, lookF, setv, finO_r, finO_n, finO_x, again_n, again_x, again_r, lookT, eqPat, eqTag, reduceCtorEq, Nat.reduceEqDiff, Nat.reduceAdd, Nat.reduceSub, Nat.reduceMul, Nat.reduceDiv, Nat.reduceLeDiff, Nat.reduceLT, Int.reduceToNat, Int.reduceLT, Int.reduceLE, Int.reduceAdd, Int.reduceSub, Int.reduceMul, Int.reduceNeg, Int.reduceEq, Int.reduceNe, wrap64, false_imp_iff, true_imp_iff, eq_self, decide_true, decide_false, Int.cast_ofNat_Int,  true_and, and_true, false_and, and_false, imp_self, implies_true, List.getElem?_cons_zero, List.getElem?_cons_succ, List.length_cons, List.length_nil, List.append_nil, List.nil_append, List.cons_append, List.take_succ_cons, List.take_zero, List.drop_succ_cons, List.drop_zero, List.take_nil, List.drop_nil, List.reverse_cons, List.reverse_nil, List.map_cons, List.map_nil, Nat.zero_add, Nat.add_zero, frOf, den_nil, den_o0, ↓gd_tt, ↓gd_ff, ↓gd_tf, ↓gd_ft, gd_any, den_o1, kont_app, den_g, setv, Bool.not_true, Bool.not_false, den_skip, den_reg, den_regD, den_regP, den_A, den_regW, den_W, den_bad, evW, baseD, stBlk, touch, clear, untouched, updsW, List.all_cons, List.all_nil, List.contains_cons, List.contains_nil, Bool.not_true, Bool.not_false, Bool.or_false, Bool.or_self, Bool.false_or, Bool.true_or, Bool.or_true, den_seq, den_cond, den_block, den_exit, den_ret, den_b, den_xb, den_xo, den_xc, den_xu, den_rb, den_ro, den_rc, den_ru, den_u, den_loopU, finP_r, finP_n, finP_x, finE_r, finE_n, finE_x, ↓reduceIte, ↓e_box, ↓e_build, ↓e_bslice, ↓e_load, ↓e_store, ↓e_idxS, ↓e_idxV, ↓e_idxT, ↓e_fieldV, ↓e_eqv, ↓e_isNil, ↓e_b2s, ↓e_slcS, ↓e_arrAt, ↓e_ext, ↓e_app, ↓e_copy, ↓e_mv, ↓e_pick, ↓e_new, ↓e_nilc, ↓e_fld, ↓e_idxA, ↓e_bin, ↓e_eqb, ↓e_un, ↓e_conv, ↓e_strS, ↓e_s2b, ↓e_mkfn, ↓e_mksl, ↓e_slcA, ↓e_slcT, ↓e_call, ↓e_callp, ↓e_callv, ↓e_len, ↓e_lenA, ↓e_mx, ↓e_mn, ↓e_mkmap, ↓e_mput, ↓e_mlen, ↓e_mk8, ↓e_capN, ↓e_appZ, ↓u_onInt, ↓u_onBool, ↓u_onOpt0, ↓u_onOpt1, ↓u_binV, ↓u_srcOf, ↓u_srcSl, ↓binI, ↓binS, ↓fillE, ↓evRes, evA, Opd.ev, Sx.get, put, putO, del, dels, frD, memD, pickD, kills, views, newer, rd, rm, upd, splice, keysOf, kvOf, SV.cells?, SV.one, retOf]

def gRot : List SV → Option SV
  | [.int .u32 n, .int .i64 (.negSucc k)] => if k + 1 ≤ 31 then some (.int .u32 (rotI n (k + 1))) else none
  | _ => none
theorem g104 {n : Int} {r : Nat} (h1 : 1 ≤ r) (h2 : r ≤ 31) : gRot [.int .u32 n, .int .i64 (-(r : Int))] = some (.int .u32 (rotI n r)) := by
  obtain ⟨k, rfl⟩ : ∃ k, r = k + 1 := ⟨r - 1, by omega⟩
  show gRot [.int .u32 n, .int .i64 (.negSucc k)] = _
  simp only [gRot]
  rw [if_pos h2]
def tab1 : Tab := ⟨[(104, gRot)], []⟩
theorem tab1_ok : TabX Tryd.prog tS tab1 := by
  refine ⟨fun x h args r hr => ?_, fun x h => by simp [tab1] at h⟩
  simp only [tab1, List.mem_singleton] at h
  subst h
  simp only at hr
  unfold gRot at hr
  split at hr
  · rename_i n k
    split at hr
    · rename_i hc
      cases hr
      exact ⟨f104 n (k + 1) (by omega) hc, fun η => by simp only [SV.renL, SV.ren], fun η => by simp only [SV.renL, SV.ren]⟩
    · cases hr
  · cases hr

def mixI (n : Int) (i j k : Nat) : Int := bitop .xor .u32 (bitop .xor .u32 (rotI n i) (rotI n j)) (rotI n k)
theorem f87 (n : Int) (i j k : Nat) (hi : 1 ≤ i ∧ i ≤ 31) (hj : 1 ≤ j ∧ j ≤ 31) (hk : 1 ≤ k ∧ k ≤ 31) :
    Fun Tryd.prog tS 87 [.int .u32 n, .int .i64 (i : Int), .int .i64 (j : Int), .int .i64 (k : Int)] [] 0 (.int .u32 (mixI n i j k)) [] 0 := by
  refine fun_pure none (callX tab1) (callX_ok tab1_ok) chk87 (show 4 ≤ 23 by decide) (fun _ => rfl) ?_
  unfold sf87
  have G1 := @g104 n i hi.1 hi.2
  have G2 := @g104 n j hj.1 hj.2
  have G3 := @g104 n k hk.1 hk.2
  have w1 : IntKind.i64.wrap (0 - (i : Int)) = -(i : Int) := by rw [wrap64 (by omega) (by omega)]; omega
  have w2 : IntKind.i64.wrap (0 - (j : Int)) = -(j : Int) := by rw [wrap64 (by omega) (by omega)]; omega
  have w3 : IntKind.i64.wrap (0 - (k : Int)) = -(k : Int) := by rw [wrap64 (by omega) (by omega)]; omega
  simp (config := { maxSteps := 1000000 }) only [w1, w2, w3, ↓G1, ↓G2, ↓G3, mixI, tab1, SV.flatL, SV.flat, Bool.and_true, Bool.and_self, Bool.true_and, beq_self_eq_true, Int.reduceGE, Int.reduceGT, ↓u_callAnd, Blk.mk.injEq, List.cons.injEq, SV.int.injEq, SV.bool.injEq, SV.tup.injEq, SV.agg.injEq, and_self, undef, Int.reduceBNe, Int.reduceBEq, Nat.reduceBNe, Nat.reduceBEq, ↓u_callX, lookF, setv, finO_r, finO_n, finO_x, again_n, again_x, again_r, lookT, eqPat, eqTag, reduceCtorEq, Nat.reduceEqDiff, Nat.reduceAdd, Nat.reduceSub, Nat.reduceMul, Nat.reduceDiv, Nat.reduceLeDiff, Nat.reduceLT, Int.reduceToNat, Int.reduceLT, Int.reduceLE, Int.reduceAdd, Int.reduceSub, Int.reduceMul, Int.reduceNeg, Int.reduceEq, Int.reduceNe, wrap64, false_imp_iff, true_imp_iff, eq_self, decide_true, decide_false, Int.cast_ofNat_Int,  true_and, and_true, false_and, and_false, imp_self, implies_true, List.getElem?_cons_zero, List.getElem?_cons_succ, List.length_cons, List.length_nil, List.append_nil, List.nil_append, List.cons_append, List.take_succ_cons, List.take_zero, List.drop_succ_cons, List.drop_zero, List.take_nil, List.drop_nil, List.reverse_cons, List.reverse_nil, List.map_cons, List.map_nil, Nat.zero_add, Nat.add_zero, frOf, den_nil, den_o0, ↓gd_tt, ↓gd_ff, ↓gd_tf, ↓gd_ft, gd_any, den_o1, kont_app, den_g, setv, Bool.not_true, Bool.not_false, den_skip, den_reg, den_regD, den_regP, den_A, den_regW, den_W, den_bad, evW, baseD, stBlk, touch, clear, untouched, updsW, List.all_cons, List.all_nil, List.contains_cons, List.contains_nil, Bool.not_true, Bool.not_false, Bool.or_false, Bool.or_self, Bool.false_or, Bool.true_or, Bool.or_true, den_seq, den_cond, den_block, den_exit, den_ret, den_b, den_xb, den_xo, den_xc, den_xu, den_rb, den_ro, den_rc, den_ru, den_u, den_loopU, finP_r, finP_n, finP_x, finE_r, finE_n, finE_x, ↓reduceIte, ↓e_box, ↓e_build, ↓e_bslice, ↓e_load, ↓e_store, ↓e_idxS, ↓e_idxV, ↓e_idxT, ↓e_fieldV, ↓e_eqv, ↓e_isNil, ↓e_b2s, ↓e_slcS, ↓e_arrAt, ↓e_ext, ↓e_app, ↓e_copy, ↓e_mv, ↓e_pick, ↓e_new, ↓e_nilc, ↓e_fld, ↓e_idxA, ↓e_bin, ↓e_eqb, ↓e_un, ↓e_conv, ↓e_strS, ↓e_s2b, ↓e_mkfn, ↓e_mksl, ↓e_slcA, ↓e_slcT, ↓e_call, ↓e_callp, ↓e_callv, ↓e_len, ↓e_lenA, ↓e_mx, ↓e_mn, ↓e_mkmap, ↓e_mput, ↓e_mlen, ↓e_mk8, ↓e_capN, ↓e_appZ, ↓u_onInt, ↓u_onBool, ↓u_onOpt0, ↓u_onOpt1, ↓u_binV, ↓u_srcOf, ↓u_srcSl, ↓binI, ↓binS, ↓fillE, ↓evRes, evA, Opd.ev, Sx.get, put, putO, del, dels, frD, memD, pickD, kills, views, newer, rd, rm, upd, splice, keysOf, kvOf, SV.cells?, SV.one, retOf]
end Go.Proofs.YtkfbkooobfepeaaDoor

/- SHA-256 of package hash: the schedule. -/
namespace Go.Proofs.YtkfbkooobfepeaaDoor
open Go Go.Sx Sf
set_option maxRecDepth 100000
set_option linter.unusedSimpArgs false
set_option linter.unusedVariables false

variable {tS : List (Nat × List SV)}
def u8 (n : Int) : SV := .int .u8 n
def addI (a b : Int) : Int := IntKind.u32.wrap (a + b)
def shrI (n : Int) (r : Nat) : Int := n.fdiv (2 ^ (min r IntKind.u32.bits))
def pushB (w c : Int) : Int := bitop .or .u32 (IntKind.u32.wrap (w * 2 ^ (min 8 IntKind.u32.bits))) (IntKind.u32.wrap c)
def be4 (b : List Int) (t : Nat) : Int := pushB (pushB (pushB (pushB 0 (b.getD (4 * t) 0)) (b.getD (4 * t + 1) 0)) (b.getD (4 * t + 2) 0)) (b.getD (4 * t + 3) 0)
def sig0 (p : Int) : Int := bitop .xor .u32 (bitop .xor .u32 (rotI p 7) (rotI p 18)) (shrI p 3)
def sig1 (q : Int) : Int := bitop .xor .u32 (bitop .xor .u32 (rotI q 17) (rotI q 19)) (shrI q 10)
def nxt (b l : List Int) (t : Nat) : Int :=
  if t < 16 then be4 b t else addI (addI (addI (l.getD (t - 16) 0) (sig0 (l.getD (t - 15) 0))) (l.getD (t - 7) 0)) (sig1 (l.getD (t - 2) 0))
def schI (b : List Int) : Nat → List Int
  | 0 => []
  | t + 1 => schI b t ++ [nxt b (schI b t) t]
theorem schI_len (b : List Int) : ∀ t, (schI b t).length = t
  | 0 => rfl
  | t + 1 => by simp [schI, schI_len b t]
def cW (b : List Int) (t : Nat) : List SV := (schI b t).map u32 ++ List.replicate (64 - t) (u32 0)
theorem cW_len {b : List Int} {t : Nat} (h : t ≤ 64) : (cW b t).length = 64 := by simp [cW, schI_len]; omega
theorem cW_get {b : List Int} {t j : Nat} (h : j < t) : (cW b t)[j]? = some (u32 ((schI b t).getD j 0)) := by
  unfold cW
  rw [List.getElem?_append_left (by simp [schI_len, h])]
  simp [List.getD_eq_getElem?_getD, schI_len, h]
theorem cW_new {b : List Int} {t : Nat} (h : t < 64) : (cW b t)[t]? = some (u32 0) := by
  unfold cW
  rw [List.getElem?_append_right (by simp [schI_len]), List.getElem?_replicate, if_pos (by simp only [List.length_map, schI_len]; omega)]
def cM (b : List Int) (t : Nat) (v : SV) : List SV := (schI b t).map u32 ++ v :: List.replicate (63 - t) (u32 0)
theorem cW_put {b : List Int} {t : Nat} (h : t < 64) (v : SV) : splice (cW b t) t [v] = cM b t v := by
  unfold splice cW cM
  have e : 64 - t = (63 - t) + 1 := by omega
  rw [List.take_left' (by simp [schI_len]), e, List.replicate_succ]
  simp [List.drop_append, schI_len]
theorem cM_len {b : List Int} {t : Nat} (h : t < 64) (v : SV) : (cM b t v).length = 64 := by simp [cM, schI_len]; omega
theorem cM_get {b : List Int} {t : Nat} (v : SV) : (cM b t v)[t]? = some v := by
  unfold cM
  rw [List.getElem?_append_right (by simp [schI_len])]
  simp [schI_len]
theorem cM_put {b : List Int} {t : Nat} (v v' : SV) : splice (cM b t v) t [v'] = cM b t v' := by
  unfold splice cM
  rw [List.take_left' (by simp [schI_len])]
  simp [List.drop_append, schI_len]
theorem cM_step {b : List Int} {t : Nat} : cM b t (.int .u32 (nxt b (schI b t) t)) = cW b (t + 1) := by
  unfold cM cW
  simp only [schI, List.map_append, List.map_cons, List.map_nil, List.append_assoc, List.cons_append, List.nil_append]
  rw [show 64 - (t + 1) = 63 - t by omega]; rfl
theorem cW_ren (η : Nat → Nat × Nat) (b : List Int) (t : Nat) : SV.renL η (cW b t) = cW b t := by
  rw [SV.renL_eq]
  unfold cW
  simp [u32, SV.ren]
theorem cM_ren (η : Nat → Nat × Nat) (b : List Int) (t : Nat) (n : Int) : SV.renL η (cM b t (.int .u32 n)) = cM b t (.int .u32 n) := by
  rw [SV.renL_eq]
  unfold cM
  simp [u32, SV.ren]
theorem u8_ren (η : Nat → Nat × Nat) (b : List Int) : SV.renL η (b.map u8) = b.map u8 := by
  rw [SV.renL_eq]
  simp [u8, SV.ren]
def z64 : List SV := List.replicate 64 (.int .u32 0)
theorem z64_ren (η : Nat → Nat × Nat) : SV.renL η z64 = z64 := by
  rw [SV.renL_eq]
  unfold z64
  rw [List.map_replicate]; rfl
theorem cW_all (b : List Int) : cW b 64 = (schI b 64).map u32 := by simp [cW]
theorem ren_u32 (η : Nat → Nat × Nat) (l : List Int) : (SV.agg (l.map u32)).ren η = SV.agg (l.map u32) := by
  simp only [SV.ren, SV.renL_eq, List.map_map]
  congr 1
theorem f86 (b : List Int) (hb : b.length = 64) (cap : Option Nat) (hcap : CapOk cap 64) : Fun Tryd.prog tS 86 [.slc 0 0 1 64 cap] [(0, ⟨.view, b.map u8⟩)] 1 (.agg ((schI b 64).map u32)) [] 1 := by
  refine fun_val none (callX tab1) (callX_ok tab1_ok) chk86 (show 1 ≤ 79 by decide) (fun η => ren_u32 η _) ?_
  unfold sf86
  simp (config := { maxSteps := 1000000 }) only [tab1, SV.flatL, SV.flat, Bool.and_true, Bool.and_self, Bool.true_and, beq_self_eq_true, Int.reduceGE, Int.reduceGT, ↓u_callAnd, Blk.mk.injEq, List.cons.injEq, SV.int.injEq, SV.bool.injEq, SV.tup.injEq, SV.agg.injEq, and_self, undef, Int.reduceBNe, Int.reduceBEq, Nat.reduceBNe, Nat.reduceBEq, ↓u_callX, lookF, setv, finO_r, finO_n, finO_x, again_n, again_x, again_r, lookT, eqPat, eqTag, reduceCtorEq, Nat.reduceEqDiff, Nat.reduceAdd, Nat.reduceSub, Nat.reduceMul, Nat.reduceDiv, Nat.reduceLeDiff, Nat.reduceLT, Int.reduceToNat, Int.reduceLT, Int.reduceLE, Int.reduceAdd, Int.reduceSub, Int.reduceMul, Int.reduceNeg, Int.reduceEq, Int.reduceNe, wrap64, false_imp_iff, true_imp_iff, eq_self, decide_true, decide_false, Int.cast_ofNat_Int,  true_and, and_true, false_and, and_false, imp_self, implies_true, List.getElem?_cons_zero, List.getElem?_cons_succ, List.length_cons, List.length_nil, List.append_nil, List.nil_append, List.cons_append, List.take_succ_cons, List.take_zero, List.drop_succ_cons, List.drop_zero, List.take_nil, List.drop_nil, List.reverse_cons, List.reverse_nil, List.map_cons, List.map_nil, Nat.zero_add, Nat.add_zero, frOf, den_nil, den_o0, ↓gd_tt, ↓gd_ff, ↓gd_tf, ↓gd_ft, gd_any, den_o1, kont_app, den_g, setv, Bool.not_true, Bool.not_false, den_skip, den_reg, den_regD, den_regP, den_A, den_regW, den_W, den_bad, evW, baseD, stBlk, touch, clear, untouched, updsW, List.all_cons, List.all_nil, List.contains_cons, List.contains_nil, Bool.not_true, Bool.not_false, Bool.or_false, Bool.or_self, Bool.false_or, Bool.true_or, Bool.or_true, den_seq, den_cond, den_block, den_exit, den_ret, den_b, den_xb, den_xo, den_xc, den_xu, den_rb, den_ro, den_rc, den_ru, den_u, den_loopU, finP_r, finP_n, finP_x, finE_r, finE_n, finE_x, ↓reduceIte, ↓e_box, ↓e_build, ↓e_bslice, ↓e_load, ↓e_store, ↓e_idxS, ↓e_idxV, ↓e_idxT, ↓e_fieldV, ↓e_eqv, ↓e_isNil, ↓e_b2s, ↓e_slcS, ↓e_arrAt, ↓e_ext, ↓e_app, ↓e_copy, ↓e_mv, ↓e_pick, ↓e_new, ↓e_nilc, ↓e_fld, ↓e_idxA, ↓e_bin, ↓e_eqb, ↓e_un, ↓e_conv, ↓e_strS, ↓e_s2b, ↓e_mkfn, ↓e_mksl, ↓e_slcA, ↓e_slcT, ↓e_call, ↓e_callp, ↓e_callv, ↓e_len, ↓e_lenA, ↓e_mx, ↓e_mn, ↓e_mkmap, ↓e_mput, ↓e_mlen, ↓e_mk8, ↓e_capN, ↓e_appZ, ↓u_onInt, ↓u_onBool, ↓u_onOpt0, ↓u_onOpt1, ↓u_binV, ↓u_srcOf, ↓u_srcSl, ↓binI, ↓binS, ↓fillE, ↓evRes, evA, Opd.ev, Sx.get, put, putO, del, dels, frD, memD, pickD, kills, views, newer, rd, rm, upd, splice, keysOf, kvOf, SV.cells?, SV.one, retOf]
  rw [den_loop]
  have hW := fun η t => cW_ren η b t
  have hM := fun η t n => cM_ren η b t n
  have hB := fun η => u8_ren η b
  have hz := fun η => z64_ren η
  refine den_inv (callX_ok tab1_ok) (σ := Nat) (fun t => [(11, .int .i64 (t : Int)), (3, .ptr 2 0), (2, .ptr 1 0), (0, .slc 0 0 1 64 cap)])
    (fun t => [(2, ⟨.own 121, cW b t⟩), (1, ⟨.own 121, z64⟩), (0, ⟨.view, b.map u8⟩)]) (fun _ => 3) (fun t => t ≤ 64) (fun t => 64 - t) 0 ?_ (Nat.zero_le _) ?_
  · exact ⟨[(0, 0), (1, 0), (2, 0)], by simp only [hW, hB, hz, EntM, compat, apartM, keysBelow, frEnt, geto, eta, idHs, rd, SV.ren, SV.renL, Option.getD_some, Option.getD_none, List.getElem?_cons_zero, List.getElem?_cons_succ, List.getElem?_nil, List.length_cons, List.length_nil, Nat.zero_add, Nat.add_zero, Nat.reduceAdd, Nat.reduceSub, Nat.reduceEqDiff, Nat.reduceLT, Nat.reduceLeDiff, ↓reduceIte, Kind.isOwn, List.take_succ_cons, List.take_zero, List.nil_append, List.cons_append, List.append_nil, List.take_nil, and_self, and_true, true_and, exists_eq_left', Option.some.injEq, Blk.mk.injEq, Kind.own.injEq, List.drop_zero, List.take_length, Nat.le_refl, ne_eq, not_false_eq_true, implies_true, List.forall_mem_cons, List.not_mem_nil, false_imp_iff, Bool.or_false, Bool.false_or, Bool.or_self, Bool.true_or, Bool.or_true, forall_const, reduceCtorEq, List.mem_cons, or_false, forall_eq_or_imp, forall_eq, Nat.succ_ne_self, exists_eq_left, Option.some_inj]; trivial, by simp [EntM, compat, apartM, keysBelow, frEnt, geto, eta, idHs, rd, SV.ren, SV.renL, Option.getD_some, Option.getD_none, List.getElem?_cons_zero, List.getElem?_cons_succ, List.getElem?_nil, List.length_cons, List.length_nil, Nat.zero_add, Nat.add_zero, Nat.reduceAdd, Nat.reduceSub, Nat.reduceEqDiff, Nat.reduceLT, Nat.reduceLeDiff, ↓reduceIte, Kind.isOwn, List.take_succ_cons, List.take_zero, List.nil_append, List.cons_append, List.append_nil, List.take_nil, and_self, and_true, true_and, exists_eq_left', Option.some.injEq, Blk.mk.injEq, Kind.own.injEq, List.drop_zero, List.take_length, Nat.le_refl, ne_eq, not_false_eq_true, implies_true, List.forall_mem_cons, List.not_mem_nil, false_imp_iff, Bool.or_false, Bool.false_or, Bool.or_self, Bool.true_or, Bool.or_true, forall_const, reduceCtorEq, List.mem_cons, or_false, forall_eq_or_imp, forall_eq, Nat.succ_ne_self, exists_eq_left, Option.some_inj]⟩
  · intro t ht
    by_cases h64 : t < 64
    · have i1 : (t : Int) < 64 := by omega
      have i0 : (0 : Int) ≤ (t : Int) := by omega
      have wt : IntKind.i64.wrap ((t : Int) + 1) = ((t + 1 : Nat) : Int) := by rw [wrap64 (by omega) (by omega)]; omega
      by_cases h16 : t < 16
      · have i2 : (t : Int) < 16 := by omega
        have w1 : IntKind.i64.wrap (4 * (t : Int)) = ((4 * t : Nat) : Int) := by rw [wrap64 (by omega) (by omega)]; omega
        have w2 : IntKind.i64.wrap (((4 * t : Nat) : Int) + 4) = ((4 * t + 4 : Nat) : Int) := by rw [wrap64 (by omega) (by omega)]; omega
        have k0 : 4 * t + 4 ≤ 64 := by omega
        have hlen : (b.map u8).length = 64 := by simp [hb]
        have v1 : (0 : Int) ≤ ((4 * t : Nat) : Int) := by omega
        have v2 : ((4 * t : Nat) : Int) ≤ ((4 * t + 4 : Nat) : Int) := by omega
        have v3 : ((4 * t + 4 : Nat) : Int) ≤ 64 := by omega
        have v4 : 4 * t + 4 - 4 * t = 4 := by omega
        simp (config := { maxSteps := 1000000 }) only [tab1, i1, i2, w1, w2, v1, v2, v3, v4, hlen, Int.toNat_natCast, Nat.mul_one, SV.flatL, SV.flat, Bool.and_true, Bool.and_self, Bool.true_and, beq_self_eq_true, Int.reduceGE, Int.reduceGT, ↓u_callAnd, Blk.mk.injEq, List.cons.injEq, SV.int.injEq, SV.bool.injEq, SV.tup.injEq, SV.agg.injEq, and_self, undef, Int.reduceBNe, Int.reduceBEq, Nat.reduceBNe, Nat.reduceBEq, ↓u_callX, lookF, setv, finO_r, finO_n, finO_x, again_n, again_x, again_r, lookT, eqPat, eqTag, reduceCtorEq, Nat.reduceEqDiff, Nat.reduceAdd, Nat.reduceSub, Nat.reduceMul, Nat.reduceDiv, Nat.reduceLeDiff, Nat.reduceLT, Int.reduceToNat, Int.reduceLT, Int.reduceLE, Int.reduceAdd, Int.reduceSub, Int.reduceMul, Int.reduceNeg, Int.reduceEq, Int.reduceNe, wrap64, false_imp_iff, true_imp_iff, eq_self, decide_true, decide_false, Int.cast_ofNat_Int,  true_and, and_true, false_and, and_false, imp_self, implies_true, List.getElem?_cons_zero, List.getElem?_cons_succ, List.length_cons, List.length_nil, List.append_nil, List.nil_append, List.cons_append, List.take_succ_cons, List.take_zero, List.drop_succ_cons, List.drop_zero, List.take_nil, List.drop_nil, List.reverse_cons, List.reverse_nil, List.map_cons, List.map_nil, Nat.zero_add, Nat.add_zero, frOf, den_nil, den_o0, ↓gd_tt, ↓gd_ff, ↓gd_tf, ↓gd_ft, gd_any, den_o1, kont_app, den_g, setv, Bool.not_true, Bool.not_false, den_skip, den_reg, den_regD, den_regP, den_A, den_regW, den_W, den_bad, evW, baseD, stBlk, touch, clear, untouched, updsW, List.all_cons, List.all_nil, List.contains_cons, List.contains_nil, Bool.not_true, Bool.not_false, Bool.or_false, Bool.or_self, Bool.false_or, Bool.true_or, Bool.or_true, den_seq, den_cond, den_block, den_exit, den_ret, den_b, den_xb, den_xo, den_xc, den_xu, den_rb, den_ro, den_rc, den_ru, den_u, den_loopU, finP_r, finP_n, finP_x, finE_r, finE_n, finE_x, ↓reduceIte, ↓e_box, ↓e_build, ↓e_bslice, ↓e_load, ↓e_store, ↓e_idxS, ↓e_idxV, ↓e_idxT, ↓e_fieldV, ↓e_eqv, ↓e_isNil, ↓e_b2s, ↓e_slcS, ↓e_arrAt, ↓e_ext, ↓e_app, ↓e_copy, ↓e_mv, ↓e_pick, ↓e_new, ↓e_nilc, ↓e_fld, ↓e_idxA, ↓e_bin, ↓e_eqb, ↓e_un, ↓e_conv, ↓e_strS, ↓e_s2b, ↓e_mkfn, ↓e_mksl, ↓e_slcA, ↓e_slcT, ↓e_call, ↓e_callp, ↓e_callv, ↓e_len, ↓e_lenA, ↓e_mx, ↓e_mn, ↓e_mkmap, ↓e_mput, ↓e_mlen, ↓e_mk8, ↓e_capN, ↓e_appZ, ↓u_onInt, ↓u_onBool, ↓u_onOpt0, ↓u_onOpt1, ↓u_binV, ↓u_srcOf, ↓u_srcSl, ↓binI, ↓binS, ↓fillE, ↓evRes, evA, Opd.ev, Sx.get, put, putO, del, dels, frD, memD, pickD, kills, views, newer, rd, rm, upd, splice, keysOf, kvOf, SV.cells?, SV.one, retOf]
        refine ⟨by cases cap with
          | none => trivial
          | some c => exact hcap c rfl, ?_⟩
        rw [den_loop]
        refine den_unroll (callX_ok tab1_ok) (callT_point _ _) 5 ?_
        have hj : ∀ j, 4 * t + j < 64 → (b.map u8)[4 * t + j]? = some (u8 (b.getD (4 * t + j) 0)) := by
          intro j hj
          simp [List.getD_eq_getElem?_getD, show 4 * t + j < b.length by omega]
        have h0 := hj 0 (by omega)
        rw [Nat.add_zero] at h0
        have h1 := hj 1 (by omega)
        have h2 := hj 2 (by omega)
        have h3 := hj 3 (by omega)
        have lt1 : ∀ j, j < 4 → 4 * t + j < 64 := by omega
        simp (config := { maxSteps := 1000000 }) only [tab1, h0, h1, h2, h3, hlen, i1, i2, i0, cW_len ht, cM_len h64, cW_new h64, cW_put h64, cM_get, cM_put, Int.toNat_natCast, Nat.mul_one, wt, u8, u32, SV.flatL, SV.flat, Bool.and_true, Bool.and_self, Bool.true_and, beq_self_eq_true, Int.reduceGE, Int.reduceGT, ↓u_callAnd, Blk.mk.injEq, List.cons.injEq, SV.int.injEq, SV.bool.injEq, SV.tup.injEq, SV.agg.injEq, and_self, undef, Int.reduceBNe, Int.reduceBEq, Nat.reduceBNe, Nat.reduceBEq, ↓u_callX, lookF, setv, finO_r, finO_n, finO_x, again_n, again_x, again_r, lookT, eqPat, eqTag, reduceCtorEq, Nat.reduceEqDiff, Nat.reduceAdd, Nat.reduceSub, Nat.reduceMul, Nat.reduceDiv, Nat.reduceLeDiff, Nat.reduceLT, Int.reduceToNat, Int.reduceLT, Int.reduceLE, Int.reduceAdd, Int.reduceSub, Int.reduceMul, Int.reduceNeg, Int.reduceEq, Int.reduceNe, wrap64, false_imp_iff, true_imp_iff, eq_self, decide_true, decide_false, Int.cast_ofNat_Int,  true_and, and_true, false_and, and_false, imp_self, implies_true, List.getElem?_cons_zero, List.getElem?_cons_succ, List.length_cons, List.length_nil, List.append_nil, List.nil_append, List.cons_append, List.take_succ_cons, List.take_zero, List.drop_succ_cons, List.drop_zero, List.take_nil, List.drop_nil, List.reverse_cons, List.reverse_nil, List.map_cons, List.map_nil, Nat.zero_add, Nat.add_zero, frOf, den_nil, den_o0, ↓gd_tt, ↓gd_ff, ↓gd_tf, ↓gd_ft, gd_any, den_o1, kont_app, den_g, setv, Bool.not_true, Bool.not_false, den_skip, den_reg, den_regD, den_regP, den_A, den_regW, den_W, den_bad, evW, baseD, stBlk, touch, clear, untouched, updsW, List.all_cons, List.all_nil, List.contains_cons, List.contains_nil, Bool.not_true, Bool.not_false, Bool.or_false, Bool.or_self, Bool.false_or, Bool.true_or, Bool.or_true, den_seq, den_cond, den_block, den_exit, den_ret, den_b, den_xb, den_xo, den_xc, den_xu, den_rb, den_ro, den_rc, den_ru, den_u, den_loopU, finP_r, finP_n, finP_x, finE_r, finE_n, finE_x, ↓reduceIte, ↓e_box, ↓e_build, ↓e_bslice, ↓e_load, ↓e_store, ↓e_idxS, ↓e_idxV, ↓e_idxT, ↓e_fieldV, ↓e_eqv, ↓e_isNil, ↓e_b2s, ↓e_slcS, ↓e_arrAt, ↓e_ext, ↓e_app, ↓e_copy, ↓e_mv, ↓e_pick, ↓e_new, ↓e_nilc, ↓e_fld, ↓e_idxA, ↓e_bin, ↓e_eqb, ↓e_un, ↓e_conv, ↓e_strS, ↓e_s2b, ↓e_mkfn, ↓e_mksl, ↓e_slcA, ↓e_slcT, ↓e_call, ↓e_callp, ↓e_callv, ↓e_len, ↓e_lenA, ↓e_mx, ↓e_mn, ↓e_mkmap, ↓e_mput, ↓e_mlen, ↓e_mk8, ↓e_capN, ↓e_appZ, ↓u_onInt, ↓u_onBool, ↓u_onOpt0, ↓u_onOpt1, ↓u_binV, ↓u_srcOf, ↓u_srcSl, ↓binI, ↓binS, ↓fillE, ↓evRes, evA, Opd.ev, Sx.get, put, putO, del, dels, frD, memD, pickD, kills, views, newer, rd, rm, upd, keysOf, kvOf, SV.cells?, SV.one, retOf]
        refine ⟨by omega, by omega, by omega, by omega, by omega, by omega, by omega, by omega, t + 1, ⟨[(0, 0), (1, 0), (2, 0)], ?_, by simp [EntM, compat, apartM, keysBelow, frEnt, geto, eta, idHs, rd, SV.ren, SV.renL, Option.getD_some, Option.getD_none, List.getElem?_cons_zero, List.getElem?_cons_succ, List.getElem?_nil, List.length_cons, List.length_nil, Nat.zero_add, Nat.add_zero, Nat.reduceAdd, Nat.reduceSub, Nat.reduceEqDiff, Nat.reduceLT, Nat.reduceLeDiff, ↓reduceIte, Kind.isOwn, List.take_succ_cons, List.take_zero, List.nil_append, List.cons_append, List.append_nil, List.take_nil, and_self, and_true, true_and, exists_eq_left', Option.some.injEq, Blk.mk.injEq, Kind.own.injEq, List.drop_zero, List.take_length, Nat.le_refl, ne_eq, not_false_eq_true, implies_true, List.forall_mem_cons, List.not_mem_nil, false_imp_iff, Bool.or_false, Bool.false_or, Bool.or_self, Bool.true_or, Bool.or_true, forall_const, reduceCtorEq, List.mem_cons, or_false, forall_eq_or_imp, forall_eq, Nat.succ_ne_self, exists_eq_left, Option.some_inj]⟩, by omega, by omega⟩
        rw [← cM_step (b := b) (t := t), show nxt b (schI b t) t = be4 b t from if_pos h16]
        unfold be4 pushB
        simp only [hM, hB, hz, EntM, compat, apartM, keysBelow, frEnt, geto, eta, idHs, rd, SV.ren, SV.renL, Option.getD_some, Option.getD_none, List.getElem?_cons_zero, List.getElem?_cons_succ, List.getElem?_nil, List.length_cons, List.length_nil, Nat.zero_add, Nat.add_zero, Nat.reduceAdd, Nat.reduceSub, Nat.reduceEqDiff, Nat.reduceLT, Nat.reduceLeDiff, ↓reduceIte, Kind.isOwn, List.take_succ_cons, List.take_zero, List.nil_append, List.cons_append, List.append_nil, List.take_nil, and_self, and_true, true_and, exists_eq_left', Option.some.injEq, Blk.mk.injEq, Kind.own.injEq, List.drop_zero, List.take_length, Nat.le_refl, ne_eq, not_false_eq_true, implies_true, List.forall_mem_cons, List.not_mem_nil, false_imp_iff, Bool.or_false, Bool.false_or, Bool.or_self, Bool.true_or, Bool.or_true, forall_const, reduceCtorEq, List.mem_cons, or_false, forall_eq_or_imp, forall_eq, Nat.succ_ne_self, exists_eq_left, Option.some_inj]
      · have i2 : ¬ (t : Int) < 16 := by omega
        have a1 : IntKind.i64.wrap ((t : Int) - 15) = ((t - 15 : Nat) : Int) := by rw [wrap64 (by omega) (by omega)]; omega
        have a2 : IntKind.i64.wrap ((t : Int) - 2) = ((t - 2 : Nat) : Int) := by rw [wrap64 (by omega) (by omega)]; omega
        have a3 : IntKind.i64.wrap ((t : Int) - 16) = ((t - 16 : Nat) : Int) := by rw [wrap64 (by omega) (by omega)]; omega
        have a4 : IntKind.i64.wrap ((t : Int) - 7) = ((t - 7 : Nat) : Int) := by rw [wrap64 (by omega) (by omega)]; omega
        have b1 : (0 : Int) ≤ ((t - 15 : Nat) : Int) ∧ ((t - 15 : Nat) : Int) < 64 := by omega
        have b2 : (0 : Int) ≤ ((t - 2 : Nat) : Int) ∧ ((t - 2 : Nat) : Int) < 64 := by omega
        have b3 : (0 : Int) ≤ ((t - 16 : Nat) : Int) ∧ ((t - 16 : Nat) : Int) < 64 := by omega
        have b4 : (0 : Int) ≤ ((t - 7 : Nat) : Int) ∧ ((t - 7 : Nat) : Int) < 64 := by omega
        have c1 : (cW b t)[t - 15]? = _ := cW_get (by omega)
        have c2 : (cW b t)[t - 2]? = _ := cW_get (by omega)
        have c3 : (cW b t)[t - 16]? = _ := cW_get (by omega)
        have c4 : (cW b t)[t - 7]? = _ := cW_get (by omega)
        have g7 : ∀ n, gRot [.int .u32 n, .int .i64 (-7)] = some (.int .u32 (rotI n 7)) := fun n => g104 (r := 7) (by decide) (by decide)
        have g18 : ∀ n, gRot [.int .u32 n, .int .i64 (-18)] = some (.int .u32 (rotI n 18)) := fun n => g104 (r := 18) (by decide) (by decide)
        have g17 : ∀ n, gRot [.int .u32 n, .int .i64 (-17)] = some (.int .u32 (rotI n 17)) := fun n => g104 (r := 17) (by decide) (by decide)
        have g19 : ∀ n, gRot [.int .u32 n, .int .i64 (-19)] = some (.int .u32 (rotI n 19)) := fun n => g104 (r := 19) (by decide) (by decide)
        simp (config := { maxSteps := 1000000 }) only [tab1, i1, i2, i0, a1, a2, a3, a4, b1.1, b2.1, b3.1, b4.1, b1.2, b2.2, b3.2, b4.2, c1, c2, c3, c4, ↓g7, ↓g18, ↓g17, ↓g19, cW_len ht, cW_put h64, Int.toNat_natCast, Nat.mul_one, wt, u8, u32, SV.flatL, SV.flat, Bool.and_true, Bool.and_self, Bool.true_and, beq_self_eq_true, Int.reduceGE, Int.reduceGT, ↓u_callAnd, Blk.mk.injEq, List.cons.injEq, SV.int.injEq, SV.bool.injEq, SV.tup.injEq, SV.agg.injEq, and_self, undef, Int.reduceBNe, Int.reduceBEq, Nat.reduceBNe, Nat.reduceBEq, ↓u_callX, lookF, setv, finO_r, finO_n, finO_x, again_n, again_x, again_r, lookT, eqPat, eqTag, reduceCtorEq, Nat.reduceEqDiff, Nat.reduceAdd, Nat.reduceSub, Nat.reduceMul, Nat.reduceDiv, Nat.reduceLeDiff, Nat.reduceLT, Int.reduceToNat, Int.reduceLT, Int.reduceLE, Int.reduceAdd, Int.reduceSub, Int.reduceMul, Int.reduceNeg, Int.reduceEq, Int.reduceNe, wrap64, false_imp_iff, true_imp_iff, eq_self, decide_true, decide_false, Int.cast_ofNat_Int,  true_and, and_true, false_and, and_false, imp_self, implies_true, List.getElem?_cons_zero, List.getElem?_cons_succ, List.length_cons, List.length_nil, List.append_nil, List.nil_append, List.cons_append, List.take_succ_cons, List.take_zero, List.drop_succ_cons, List.drop_zero, List.take_nil, List.drop_nil, List.reverse_cons, List.reverse_nil, List.map_cons, List.map_nil, Nat.zero_add, Nat.add_zero, frOf, den_nil, den_o0, ↓gd_tt, ↓gd_ff, ↓gd_tf, ↓gd_ft, gd_any, den_o1, kont_app, den_g, setv, Bool.not_true, Bool.not_false, den_skip, den_reg, den_regD, den_regP, den_A, den_regW, den_W, den_bad, evW, baseD, stBlk, touch, clear, untouched, updsW, List.all_cons, List.all_nil, List.contains_cons, List.contains_nil, Bool.not_true, Bool.not_false, Bool.or_false, Bool.or_self, Bool.false_or, Bool.true_or, Bool.or_true, den_seq, den_cond, den_block, den_exit, den_ret, den_b, den_xb, den_xo, den_xc, den_xu, den_rb, den_ro, den_rc, den_ru, den_u, den_loopU, finP_r, finP_n, finP_x, finE_r, finE_n, finE_x, ↓reduceIte, ↓e_box, ↓e_build, ↓e_bslice, ↓e_load, ↓e_store, ↓e_idxS, ↓e_idxV, ↓e_idxT, ↓e_fieldV, ↓e_eqv, ↓e_isNil, ↓e_b2s, ↓e_slcS, ↓e_arrAt, ↓e_ext, ↓e_app, ↓e_copy, ↓e_mv, ↓e_pick, ↓e_new, ↓e_nilc, ↓e_fld, ↓e_idxA, ↓e_bin, ↓e_eqb, ↓e_un, ↓e_conv, ↓e_strS, ↓e_s2b, ↓e_mkfn, ↓e_mksl, ↓e_slcA, ↓e_slcT, ↓e_call, ↓e_callp, ↓e_callv, ↓e_len, ↓e_lenA, ↓e_mx, ↓e_mn, ↓e_mkmap, ↓e_mput, ↓e_mlen, ↓e_mk8, ↓e_capN, ↓e_appZ, ↓u_onInt, ↓u_onBool, ↓u_onOpt0, ↓u_onOpt1, ↓u_binV, ↓u_srcOf, ↓u_srcSl, ↓binI, ↓binS, ↓fillE, ↓evRes, evA, Opd.ev, Sx.get, put, putO, del, dels, frD, memD, pickD, kills, views, newer, rd, rm, upd, keysOf, kvOf, SV.cells?, SV.one, retOf]
        refine ⟨by omega, t + 1, ⟨[(0, 0), (1, 0), (2, 0)], ?_, by simp [EntM, compat, apartM, keysBelow, frEnt, geto, eta, idHs, rd, SV.ren, SV.renL, Option.getD_some, Option.getD_none, List.getElem?_cons_zero, List.getElem?_cons_succ, List.getElem?_nil, List.length_cons, List.length_nil, Nat.zero_add, Nat.add_zero, Nat.reduceAdd, Nat.reduceSub, Nat.reduceEqDiff, Nat.reduceLT, Nat.reduceLeDiff, ↓reduceIte, Kind.isOwn, List.take_succ_cons, List.take_zero, List.nil_append, List.cons_append, List.append_nil, List.take_nil, and_self, and_true, true_and, exists_eq_left', Option.some.injEq, Blk.mk.injEq, Kind.own.injEq, List.drop_zero, List.take_length, Nat.le_refl, ne_eq, not_false_eq_true, implies_true, List.forall_mem_cons, List.not_mem_nil, false_imp_iff, Bool.or_false, Bool.false_or, Bool.or_self, Bool.true_or, Bool.or_true, forall_const, reduceCtorEq, List.mem_cons, or_false, forall_eq_or_imp, forall_eq, Nat.succ_ne_self, exists_eq_left, Option.some_inj]⟩, by omega, by omega⟩
        rw [← cM_step (b := b) (t := t), show nxt b (schI b t) t = _ from if_neg h16]
        unfold addI sig0 sig1 shrI
        simp only [hM, hB, hz, EntM, compat, apartM, keysBelow, frEnt, geto, eta, idHs, rd, SV.ren, SV.renL, Option.getD_some, Option.getD_none, List.getElem?_cons_zero, List.getElem?_cons_succ, List.getElem?_nil, List.length_cons, List.length_nil, Nat.zero_add, Nat.add_zero, Nat.reduceAdd, Nat.reduceSub, Nat.reduceEqDiff, Nat.reduceLT, Nat.reduceLeDiff, ↓reduceIte, Kind.isOwn, List.take_succ_cons, List.take_zero, List.nil_append, List.cons_append, List.append_nil, List.take_nil, and_self, and_true, true_and, exists_eq_left', Option.some.injEq, Blk.mk.injEq, Kind.own.injEq, List.drop_zero, List.take_length, Nat.le_refl, ne_eq, not_false_eq_true, implies_true, List.forall_mem_cons, List.not_mem_nil, false_imp_iff, Bool.or_false, Bool.false_or, Bool.or_self, Bool.true_or, Bool.or_true, forall_const, reduceCtorEq, List.mem_cons, or_false, forall_eq_or_imp, forall_eq, Nat.succ_ne_self, exists_eq_left, Option.some_inj]
    · obtain rfl : t = 64 := by omega
      simp (config := { maxSteps := 1000000 }) only [tab1, Int.cast_ofNat_Int, SV.flatL, SV.flat, Bool.and_true, Bool.and_self, Bool.true_and, beq_self_eq_true, Int.reduceGE, Int.reduceGT, ↓u_callAnd, Blk.mk.injEq, List.cons.injEq, SV.int.injEq, SV.bool.injEq, SV.tup.injEq, SV.agg.injEq, and_self, undef, Int.reduceBNe, Int.reduceBEq, Nat.reduceBNe, Nat.reduceBEq, ↓u_callX, lookF, setv, finO_r, finO_n, finO_x, again_n, again_x, again_r, lookT, eqPat, eqTag, reduceCtorEq, Nat.reduceEqDiff, Nat.reduceAdd, Nat.reduceSub, Nat.reduceMul, Nat.reduceDiv, Nat.reduceLeDiff, Nat.reduceLT, Int.reduceToNat, Int.reduceLT, Int.reduceLE, Int.reduceAdd, Int.reduceSub, Int.reduceMul, Int.reduceNeg, Int.reduceEq, Int.reduceNe, wrap64, false_imp_iff, true_imp_iff, eq_self, decide_true, decide_false, Int.cast_ofNat_Int,  true_and, and_true, false_and, and_false, imp_self, implies_true, List.getElem?_cons_zero, List.getElem?_cons_succ, List.length_cons, List.length_nil, List.append_nil, List.nil_append, List.cons_append, List.take_succ_cons, List.take_zero, List.drop_succ_cons, List.drop_zero, List.take_nil, List.drop_nil, List.reverse_cons, List.reverse_nil, List.map_cons, List.map_nil, Nat.zero_add, Nat.add_zero, frOf, den_nil, den_o0, ↓gd_tt, ↓gd_ff, ↓gd_tf, ↓gd_ft, gd_any, den_o1, kont_app, den_g, setv, Bool.not_true, Bool.not_false, den_skip, den_reg, den_regD, den_regP, den_A, den_regW, den_W, den_bad, evW, baseD, stBlk, touch, clear, untouched, updsW, List.all_cons, List.all_nil, List.contains_cons, List.contains_nil, Bool.not_true, Bool.not_false, Bool.or_false, Bool.or_self, Bool.false_or, Bool.true_or, Bool.or_true, den_seq, den_cond, den_block, den_exit, den_ret, den_b, den_xb, den_xo, den_xc, den_xu, den_rb, den_ro, den_rc, den_ru, den_u, den_loopU, finP_r, finP_n, finP_x, finE_r, finE_n, finE_x, ↓reduceIte, ↓e_box, ↓e_build, ↓e_bslice, ↓e_load, ↓e_store, ↓e_idxS, ↓e_idxV, ↓e_idxT, ↓e_fieldV, ↓e_eqv, ↓e_isNil, ↓e_b2s, ↓e_slcS, ↓e_arrAt, ↓e_ext, ↓e_app, ↓e_copy, ↓e_mv, ↓e_pick, ↓e_new, ↓e_nilc, ↓e_fld, ↓e_idxA, ↓e_bin, ↓e_eqb, ↓e_un, ↓e_conv, ↓e_strS, ↓e_s2b, ↓e_mkfn, ↓e_mksl, ↓e_slcA, ↓e_slcT, ↓e_call, ↓e_callp, ↓e_callv, ↓e_len, ↓e_lenA, ↓e_mx, ↓e_mn, ↓e_mkmap, ↓e_mput, ↓e_mlen, ↓e_mk8, ↓e_capN, ↓e_appZ, ↓u_onInt, ↓u_onBool, ↓u_onOpt0, ↓u_onOpt1, ↓u_binV, ↓u_srcOf, ↓u_srcSl, ↓binI, ↓binS, ↓fillE, ↓evRes, evA, Opd.ev, Sx.get, put, putO, del, dels, frD, memD, pickD, kills, views, newer, rd, rm, upd, splice, keysOf, kvOf, SV.cells?, SV.one, retOf]
      have hl := cW_len (b := b) (Nat.le_refl 64)
      have hz : z64.length = 64 := by simp [z64]
      have hd : List.drop 64 z64 = [] := List.drop_of_length_le (by omega)
      rw [List.take_of_length_le (by omega : (cW b 64).length ≤ 64), hl, hd, List.append_nil, hl, hz, List.take_of_length_le (by omega : (cW b 64).length ≤ 64), cW_all]
      exact ⟨Nat.le_refl _, rfl, Nat.le_refl _, Nat.le_refl _, rfl⟩
end Go.Proofs.YtkfbkooobfepeaaDoor

/- SHA-256 of package hash: a block. -/
namespace Go.Proofs.YtkfbkooobfepeaaDoor
open Go Go.Sx Sf
set_option maxRecDepth 100000
set_option linter.unusedSimpArgs false
set_option linter.unusedVariables false

variable {tS : List (Nat × List SV)}
/-- the numbers of bytes -/
def unI8 : List SV → Option (List Int)
  | [] => some []
  | .int .u8 n :: l => match unI8 l with
    | some r => some (n :: r)
    | none => none
  | _ => none
theorem unI8_map : ∀ b : List Int, unI8 (b.map u8) = some b
  | [] => rfl
  | n :: b => by simp only [List.map_cons, u8, unI8]; rw [show List.map u8 b = b.map u8 from rfl, unI8_map b]
theorem unI8_some : ∀ {l : List SV} {b : List Int}, unI8 l = some b → l = b.map u8
  | [], b, h => by simp only [unI8] at h; cases h; rfl
  | x :: l, b, h => by
    unfold unI8 at h
    split at h
    · rename_i he; cases he
    · rename_i n l' he
      cases he
      split at h
      · rename_i r hr; cases h; rw [unI8_some hr]; rfl
      · cases h
    · cases h
def gSch : GS
  | [.slc 0 0 1 64 cap], [(0, ⟨.view, cells⟩)] => match unI8 cells with
    | some b => match Nat.beq b.length 64, capB cap 64 with
      | true, true => some (.agg ((schI b 64).map u32), [], 1)
      | _, _ => none
    | none => none
  | _, _ => none
theorem gSch_ok : FunS Tryd.prog tS 86 gSch := by
  intro a0 m0 r m1 n1 h
  unfold gSch at h
  split at h
  · rename_i cap cells
    split at h
    · rename_i b hb
      split at h
      · rename_i h1 h2
        cases h
        rw [unI8_some hb]
        exact ⟨f86 b (Nat.eq_of_beq_eq_true h1) cap (capB_ok h2), by simp [freshB]⟩
      · cases h
    · cases h
  · cases h
end Go.Proofs.YtkfbkooobfepeaaDoor

/- SHA-256 of package hash: the compression of a block. -/
namespace Go.Proofs.YtkfbkooobfepeaaDoor
open Go Go.Sx Sf
set_option maxRecDepth 100000
set_option linter.unusedSimpArgs false
set_option linter.unusedVariables false

variable {tS : List (Nat × List SV)}
def andI (a b : Int) : Int := bitop .and .u32 a b
def xorI (a b : Int) : Int := bitop .xor .u32 a b
def notI (a : Int) : Int := bitop .xor .u32 (if IntKind.u32.signed then -1 else IntKind.u32.max) a
structure V8 where
  a : Int
  b : Int
  c : Int
  d : Int
  e : Int
  f : Int
  g : Int
  h : Int
/-- one round, with the word and the constant -/
def V8.round (s : V8) (w k : Int) : V8 :=
  let x := addI (addI (addI (addI s.h (mixI s.e 6 11 25)) (xorI (andI s.e s.f) (andI (notI s.e) s.g))) k) w
  let y := addI (mixI s.a 2 13 22) (xorI (xorI (andI s.a s.b) (andI s.a s.c)) (andI s.b s.c))
  ⟨addI x y, s.a, s.b, s.c, addI s.d x, s.e, s.f, s.g⟩
def V8.rounds (w : List Int) (s : V8) : Nat → V8
  | 0 => s
  | t + 1 => (V8.rounds w s t).round (w.getD t 0) (kc.getD t 0)
def V8.l (s : V8) : List Int := [s.a, s.b, s.c, s.d, s.e, s.f, s.g, s.h]
def V8.add (s v : V8) : V8 := ⟨addI s.a v.a, addI s.b v.b, addI s.c v.c, addI s.d v.d, addI s.e v.e, addI s.f v.f, addI s.g v.g, addI s.h v.h⟩
/-- the compression of a block -/
def comp (s : V8) (b : List Int) : V8 := s.add (V8.rounds (schI b 64) s 64)
def gMix : List SV → Option SV
  | [.int .u32 n, .int .i64 (.ofNat i), .int .i64 (.ofNat j), .int .i64 (.ofNat k)] => if (1 ≤ i ∧ i ≤ 31) ∧ (1 ≤ j ∧ j ≤ 31) ∧ (1 ≤ k ∧ k ≤ 31) then some (.int .u32 (mixI n i j k)) else none
  | _ => none
def tab2 : Tab := ⟨[(104, gRot), (87, gMix)], []⟩
theorem tab2_ok : TabX Tryd.prog tS tab2 := by
  refine ⟨fun x h args r hr => ?_, fun x h => by simp [tab2] at h⟩
  simp only [tab2, List.mem_cons, List.not_mem_nil, or_false] at h
  rcases h with rfl | rfl
  · exact tab1_ok.p _ (by simp [tab1]) args r hr
  · simp only at hr
    unfold gMix at hr
    split at hr
    · split at hr
      · rename_i hc
        cases hr
        exact ⟨f87 _ _ _ _ hc.1 hc.2.1 hc.2.2, fun η => by simp only [SV.renL, SV.ren], fun η => by simp only [SV.renL, SV.ren]⟩
      · cases hr
    · cases hr
def callH : CallT := callS [(86, gSch)] (callX tab2)
theorem callH_ok : ∀ f a m n K, callH f a m n K → callT Tryd.prog tS f a m n K :=
  callS_ok (fun x h => by simp only [List.mem_singleton] at h; subst h; exact gSch_ok) (callX_ok tab2_ok)
end Go.Proofs.YtkfbkooobfepeaaDoor

/- SHA-256 of package hash: compress. -/
namespace Go.Proofs.YtkfbkooobfepeaaDoor
open Go Go.Sx Sf
set_option maxRecDepth 100000
set_option linter.unusedSimpArgs false
set_option linter.unusedVariables false

theorem unI8_len {b : List Int} (hb : b.length = 64) : Nat.beq b.length 64 = true := by rw [hb]; rfl
theorem flat_u8 : ∀ b : List Int, SV.flatL (b.map u8) = true
  | [] => rfl
  | n :: b => by simp only [List.map_cons, SV.flatL, u8, SV.flat, Bool.true_and]; exact flat_u8 b
def z8 : List SV := [.int .u32 0, .int .u32 0, .int .u32 0, .int .u32 0, .int .u32 0, .int .u32 0, .int .u32 0, .int .u32 0]
theorem ren_w (η : Nat → Nat × Nat) (l : List Int) : SV.renL η (l.map u32) = l.map u32 := by
  simp only [SV.renL_eq, List.map_map]
  congr 1
theorem look0 : lookT tH 0 = some (kc.map u32) := (rfl)
theorem kc_len : (kc.map u32).length = 64 := (rfl)
theorem kc_take : List.take 64 (kc.map u32) = kc.map u32 := (rfl)
set_option maxHeartbeats 4000000 in
theorem f73 (s : V8) (b : List Int) (hb : b.length = 64) (cap : Option Nat) (hcap : CapOk cap 64) :
    Fun Tryd.prog tH 73 [.agg (s.l.map u32), .slc 0 0 1 64 cap] [(0, ⟨.view, b.map u8⟩)] 1 (.agg ((comp s b).l.map u32)) [] 1 := by
  refine fun_val none callH callH_ok chk73 (show 2 ≤ 116 by decide) (fun η => ren_u32 η _) ?_
  unfold sf73
  obtain ⟨a0, a1, a2, a3, a4, a5, a6, a7⟩ := s
  have hlen : (b.map u8).length = 64 := by simp [hb]
  have hfl := flat_u8 b
  have htk : List.take 64 (b.map u8) = b.map u8 := List.take_of_length_le (by omega)
  have hl64 := unI8_len hb
  have hcb : capB cap 64 = true := by
    cases cap with
    | none => rfl
    | some c => exact Nat.ble_eq_true_of_le (hcap c rfl)
  have hw := fun η l => ren_w η l
  have hsl : (List.map u32 (schI b 64)).length = 64 := by simp [schI_len]
  have hst : List.take 64 (List.map u32 (schI b 64)) = List.map u32 (schI b 64) := List.take_of_length_le (by omega)
  have rW : ∀ η, SV.renL η (List.map u32 (schI b 64)) = List.map u32 (schI b 64) := fun η => ren_w η _
  have rK : ∀ η, SV.renL η (List.map u32 kc) = List.map u32 kc := fun η => ren_w η _
  have rB : ∀ η, SV.renL η (List.map u8 b) = List.map u8 b := fun η => u8_ren η b
  have ru : ∀ η n, (u32 n).ren η = u32 n := fun _ _ => rfl
  have d64 : List.drop 64 (List.replicate 64 (SV.int .u32 0)) = [] := rfl
  generalize hRe : (fun t => V8.rounds (schI b 64) ⟨a0, a1, a2, a3, a4, a5, a6, a7⟩ t) = R
  have hR0 : R 0 = ⟨a0, a1, a2, a3, a4, a5, a6, a7⟩ := by rw [← hRe]; rfl
  generalize hW : List.map u32 (schI b 64) = W at *
  simp (config := { maxSteps := 1000000 }) only [callH, tab2, gSch, unI8_map, hlen, hfl, htk, hl64, hcb, V8.l, hW, hsl, hst, look0, kc_len, kc_take, SV.flatL, SV.flat, Bool.and_true, Bool.and_self, Bool.true_and, beq_self_eq_true, Int.reduceGE, Int.reduceGT, ↓u_callAnd, Blk.mk.injEq, List.cons.injEq, SV.int.injEq, SV.bool.injEq, SV.tup.injEq, SV.agg.injEq, and_self, undef, Int.reduceBNe, Int.reduceBEq, Nat.reduceBNe, Nat.reduceBEq, ↓u_callX, lookF, setv, finO_r, finO_n, finO_x, again_n, again_x, again_r, lookT, eqPat, eqTag, reduceCtorEq, Nat.reduceEqDiff, Nat.reduceAdd, Nat.reduceSub, Nat.reduceMul, Nat.reduceDiv, Nat.reduceLeDiff, Nat.reduceLT, Int.reduceToNat, Int.reduceLT, Int.reduceLE, Int.reduceAdd, Int.reduceSub, Int.reduceMul, Int.reduceNeg, Int.reduceEq, Int.reduceNe, wrap64, false_imp_iff, true_imp_iff, eq_self, decide_true, decide_false, Int.cast_ofNat_Int,  true_and, and_true, false_and, and_false, imp_self, implies_true, List.getElem?_cons_zero, List.getElem?_cons_succ, List.length_cons, List.length_nil, List.append_nil, List.nil_append, List.cons_append, List.take_succ_cons, List.take_zero, List.drop_succ_cons, List.drop_zero, List.take_nil, List.drop_nil, List.reverse_cons, List.reverse_nil, List.map_cons, List.map_nil, Nat.zero_add, Nat.add_zero, frOf, den_nil, den_o0, ↓gd_tt, ↓gd_ff, ↓gd_tf, ↓gd_ft, gd_any, den_o1, kont_app, den_g, setv, Bool.not_true, Bool.not_false, den_skip, den_reg, den_regD, den_regP, den_A, den_regW, den_W, den_bad, evW, baseD, stBlk, touch, clear, untouched, updsW, List.all_cons, List.all_nil, List.contains_cons, List.contains_nil, Bool.not_true, Bool.not_false, Bool.or_false, Bool.or_self, Bool.false_or, Bool.true_or, Bool.or_true, den_seq, den_cond, den_block, den_exit, den_ret, den_b, den_xb, den_xo, den_xc, den_xu, den_rb, den_ro, den_rc, den_ru, den_u, den_loopU, finP_r, finP_n, finP_x, finE_r, finE_n, finE_x, ↓reduceIte, ↓e_box, ↓e_build, ↓e_bslice, ↓e_load, ↓e_store, ↓e_idxS, ↓e_idxV, ↓e_idxT, ↓e_fieldV, ↓e_eqv, ↓e_isNil, ↓e_b2s, ↓e_slcS, ↓e_arrAt, ↓e_ext, ↓e_app, ↓e_copy, ↓e_mv, ↓e_pick, ↓e_new, ↓e_nilc, ↓e_fld, ↓e_idxA, ↓e_bin, ↓e_eqb, ↓e_un, ↓e_conv, ↓e_strS, ↓e_s2b, ↓e_mkfn, ↓e_mksl, ↓e_slcA, ↓e_slcT, ↓e_call, ↓e_callp, ↓e_callv, ↓e_len, ↓e_lenA, ↓e_mx, ↓e_mn, ↓e_mkmap, ↓e_mput, ↓e_mlen, ↓e_mk8, ↓e_capN, ↓e_appZ, ↓u_onInt, ↓u_onBool, ↓u_onOpt0, ↓u_onOpt1, ↓u_binV, ↓u_srcOf, ↓u_srcSl, ↓binI, ↓binS, ↓fillE, ↓evRes, evA, Opd.ev, Sx.get, put, putO, del, dels, frD, memD, pickD, kills, views, newer, rd, rm, upd, splice, keysOf, kvOf, SV.cells?, SV.one, retOf, ↓u_callS, canLW, canV, canC, belowL, apH, apH1, eta, SV.ren, SV.renL, newOwn, targets, rms, Kind.isOwn, ren_bytes, byte_ren, ren_ints, flat_ints, len_ints, List.getElem?_nil, Option.getD_none, Option.getD_some, Nat.sub_zero, not_true_eq_false, not_false_eq_true, Nat.le_refl, take_bytes, take_ints, nlS_0, nlS_1, nlM_0, nlM_1, nlN_0, nlN_1, take_bys1, map_byte, len_bytes, flat_bytes, Int.toNat_natCast, Nat.mul_one, Int.cast_ofNat_Int]
  refine ⟨by rw [rW]; exact hsl, ?_⟩
  rw [rW]
  rw [den_loop]
  refine den_inv callH_ok (σ := Nat) (fun t => [(22, .int .i64 (t : Int)), (21, .agg (kc.map u32)), (7, .ptr 5 0), (6, .ptr 4 0), (5, .ptr 3 0), (4, .ptr 2 0), (2, .ptr 1 0)])
    (fun t => [(5, ⟨.own 123, [u32 (R t).e, u32 (R t).f, u32 (R t).g, u32 (R t).h]⟩), (4, ⟨.own 123, [u32 (R t).a, u32 (R t).b, u32 (R t).c, u32 (R t).d]⟩), (3, ⟨.own 121, W⟩),
      (2, ⟨.own 83, z8⟩), (1, ⟨.own 83, [u32 a0, u32 a1, u32 a2, u32 a3, u32 a4, u32 a5, u32 a6, u32 a7]⟩), (0, ⟨.view, b.map u8⟩)]) (fun _ => 6) (fun t => t ≤ 64) (fun t => 64 - t) 0 ?_ (Nat.zero_le _) ?_
  · refine ⟨[(0, 0), (1, 0), (2, 0), (3, 0), (4, 0), (5, 0)], ?_, ?_⟩
    · simp only [rW, rK, ru, rB, hR0, hsl, d64, z8, EntM, compat, apartM, keysBelow, frEnt, geto, eta, idHs, rd, SV.ren, SV.renL, Option.getD_some, Option.getD_none, List.getElem?_cons_zero, List.getElem?_cons_succ, List.getElem?_nil, List.length_cons, List.length_nil, Nat.zero_add, Nat.add_zero, Nat.reduceAdd, Nat.reduceSub, Nat.reduceEqDiff, Nat.reduceLT, Nat.reduceLeDiff, ↓reduceIte, Kind.isOwn, List.take_succ_cons, List.take_zero, List.nil_append, List.cons_append, List.append_nil, List.take_nil, and_self, and_true, true_and, exists_eq_left', Option.some.injEq, Blk.mk.injEq, Kind.own.injEq, List.drop_zero, List.take_length, Nat.le_refl, ne_eq, not_false_eq_true, implies_true, List.forall_mem_cons, List.not_mem_nil, false_imp_iff, Bool.or_false, Bool.false_or, Bool.or_self, Bool.true_or, Bool.or_true, forall_const, reduceCtorEq, List.mem_cons, or_false, forall_eq_or_imp, forall_eq, Nat.succ_ne_self, exists_eq_left, Option.some_inj, byte_ren, one_byte, ren_bytes, len_bytes, take_bytes, take_ints, nlS_0, nlS_1, nlM_0, nlM_1, nlN_0, nlN_1, take_bys1, ren_ints, len_ints]
      refine (congrArg (W ++ ·) (List.drop_of_length_le ?_)).trans (List.append_nil W)
      exact Nat.le_refl 64
    · simp only [rW, rK, ru, rB, hR0, hsl, EntM, compat, apartM, keysBelow, frEnt, geto, eta, idHs, rd, SV.ren, SV.renL, Option.getD_some, Option.getD_none, List.getElem?_cons_zero, List.getElem?_cons_succ, List.getElem?_nil, List.length_cons, List.length_nil, Nat.zero_add, Nat.add_zero, Nat.reduceAdd, Nat.reduceSub, Nat.reduceEqDiff, Nat.reduceLT, Nat.reduceLeDiff, ↓reduceIte, Kind.isOwn, List.take_succ_cons, List.take_zero, List.nil_append, List.cons_append, List.append_nil, List.take_nil, and_self, and_true, true_and, exists_eq_left', Option.some.injEq, Blk.mk.injEq, Kind.own.injEq, List.drop_zero, List.take_length, Nat.le_refl, ne_eq, not_false_eq_true, implies_true, List.forall_mem_cons, List.not_mem_nil, false_imp_iff, Bool.or_false, Bool.false_or, Bool.or_self, Bool.true_or, Bool.or_true, forall_const, reduceCtorEq, List.mem_cons, or_false, forall_eq_or_imp, forall_eq, Nat.succ_ne_self, exists_eq_left, Option.some_inj, byte_ren, one_byte, ren_bytes, len_bytes, take_bytes, take_ints, nlS_0, nlS_1, nlM_0, nlM_1, nlN_0, nlN_1, take_bys1, ren_ints, len_ints]
      rfl
  · intro t ht
    by_cases h64 : t < 64
    · have c1 : (t : Int) < 64 := by omega
      have c2 : (0 : Int) ≤ (t : Int) := by omega
      have wt : IntKind.i64.wrap ((t : Int) + 1) = ((t + 1 : Nat) : Int) := by rw [wrap64_eq (by omega) (by omega)]; omega
      have gk : (List.map u32 kc)[t]? = some (u32 (kc.getD t 0)) := by
        have : kc.length = 64 := rfl
        simp [List.getD_eq_getElem?_getD, show t < kc.length by omega]
      have gw : W[t]? = some (u32 ((schI b 64).getD t 0)) := by
        rw [← hW]
        simp [List.getD_eq_getElem?_getD, schI_len, h64]
      have hR1 : R (t + 1) = (R t).round ((schI b 64).getD t 0) (kc.getD t 0) := by rw [← hRe]; rfl
      generalize hk : kc.getD t 0 = k at *
      generalize hwt : (schI b 64).getD t 0 = w at *
      rcases hRt : R t with ⟨a, bb, c, d, e, f, g, h⟩
      simp only [hRt]
      have m1 : ∀ n, gMix [.int .u32 n, .int .i64 6, .int .i64 11, .int .i64 25] = some (.int .u32 (mixI n 6 11 25)) := fun n => rfl
      have m2 : ∀ n, gMix [.int .u32 n, .int .i64 2, .int .i64 13, .int .i64 22] = some (.int .u32 (mixI n 2 13 22)) := fun n => rfl
      simp (config := { maxSteps := 1000000 }) only [callH, tab2, ↓m1, ↓m2, c1, c2, gk, gw, hsl, wt, u32, SV.flatL, SV.flat, Bool.and_true, Bool.and_self, Bool.true_and, beq_self_eq_true, Int.reduceGE, Int.reduceGT, ↓u_callAnd, Blk.mk.injEq, List.cons.injEq, SV.int.injEq, SV.bool.injEq, SV.tup.injEq, SV.agg.injEq, and_self, undef, Int.reduceBNe, Int.reduceBEq, Nat.reduceBNe, Nat.reduceBEq, ↓u_callX, lookF, setv, finO_r, finO_n, finO_x, again_n, again_x, again_r, lookT, eqPat, eqTag, reduceCtorEq, Nat.reduceEqDiff, Nat.reduceAdd, Nat.reduceSub, Nat.reduceMul, Nat.reduceDiv, Nat.reduceLeDiff, Nat.reduceLT, Int.reduceToNat, Int.reduceLT, Int.reduceLE, Int.reduceAdd, Int.reduceSub, Int.reduceMul, Int.reduceNeg, Int.reduceEq, Int.reduceNe, wrap64, false_imp_iff, true_imp_iff, eq_self, decide_true, decide_false, Int.cast_ofNat_Int,  true_and, and_true, false_and, and_false, imp_self, implies_true, List.getElem?_cons_zero, List.getElem?_cons_succ, List.length_cons, List.length_nil, List.append_nil, List.nil_append, List.cons_append, List.take_succ_cons, List.take_zero, List.drop_succ_cons, List.drop_zero, List.take_nil, List.drop_nil, List.reverse_cons, List.reverse_nil, List.map_cons, List.map_nil, Nat.zero_add, Nat.add_zero, frOf, den_nil, den_o0, ↓gd_tt, ↓gd_ff, ↓gd_tf, ↓gd_ft, gd_any, den_o1, kont_app, den_g, setv, Bool.not_true, Bool.not_false, den_skip, den_reg, den_regD, den_regP, den_A, den_regW, den_W, den_bad, evW, baseD, stBlk, touch, clear, untouched, updsW, List.all_cons, List.all_nil, List.contains_cons, List.contains_nil, Bool.not_true, Bool.not_false, Bool.or_false, Bool.or_self, Bool.false_or, Bool.true_or, Bool.or_true, den_seq, den_cond, den_block, den_exit, den_ret, den_b, den_xb, den_xo, den_xc, den_xu, den_rb, den_ro, den_rc, den_ru, den_u, den_loopU, finP_r, finP_n, finP_x, finE_r, finE_n, finE_x, ↓reduceIte, ↓e_box, ↓e_build, ↓e_bslice, ↓e_load, ↓e_store, ↓e_idxS, ↓e_idxV, ↓e_idxT, ↓e_fieldV, ↓e_eqv, ↓e_isNil, ↓e_b2s, ↓e_slcS, ↓e_arrAt, ↓e_ext, ↓e_app, ↓e_copy, ↓e_mv, ↓e_pick, ↓e_new, ↓e_nilc, ↓e_fld, ↓e_idxA, ↓e_bin, ↓e_eqb, ↓e_un, ↓e_conv, ↓e_strS, ↓e_s2b, ↓e_mkfn, ↓e_mksl, ↓e_slcA, ↓e_slcT, ↓e_call, ↓e_callp, ↓e_callv, ↓e_len, ↓e_lenA, ↓e_mx, ↓e_mn, ↓e_mkmap, ↓e_mput, ↓e_mlen, ↓e_mk8, ↓e_capN, ↓e_appZ, ↓u_onInt, ↓u_onBool, ↓u_onOpt0, ↓u_onOpt1, ↓u_binV, ↓u_srcOf, ↓u_srcSl, ↓binI, ↓binS, ↓fillE, ↓evRes, evA, Opd.ev, Sx.get, put, putO, del, dels, frD, memD, pickD, kills, views, newer, rd, rm, upd, splice, keysOf, kvOf, SV.cells?, SV.one, retOf, ↓u_callS, canLW, canV, canC, belowL, apH, apH1, eta, SV.ren, SV.renL, newOwn, targets, rms, Kind.isOwn, ren_bytes, byte_ren, ren_ints, flat_ints, len_ints, List.getElem?_nil, Option.getD_none, Option.getD_some, Nat.sub_zero, not_true_eq_false, not_false_eq_true, Nat.le_refl, take_bytes, take_ints, nlS_0, nlS_1, nlM_0, nlM_1, nlN_0, nlN_1, take_bys1, map_byte, len_bytes, flat_bytes, Int.toNat_natCast, Nat.mul_one, Int.cast_ofNat_Int]
      rw [hRt] at hR1
      refine ⟨t + 1, ⟨[(0, 0), (1, 0), (2, 0), (3, 0), (4, 0), (5, 0)], ?_, ?_⟩, by omega, by omega⟩
      · simp only [hR1, V8.round, addI, xorI, andI, notI, u32, rW, rB, z8, EntM, compat, apartM, keysBelow, frEnt, geto, eta, idHs, rd, SV.ren, SV.renL, Option.getD_some, Option.getD_none, List.getElem?_cons_zero, List.getElem?_cons_succ, List.getElem?_nil, List.length_cons, List.length_nil, Nat.zero_add, Nat.add_zero, Nat.reduceAdd, Nat.reduceSub, Nat.reduceEqDiff, Nat.reduceLT, Nat.reduceLeDiff, ↓reduceIte, Kind.isOwn, List.take_succ_cons, List.take_zero, List.nil_append, List.cons_append, List.append_nil, List.take_nil, and_self, and_true, true_and, exists_eq_left', Option.some.injEq, Blk.mk.injEq, Kind.own.injEq, List.drop_zero, List.take_length, Nat.le_refl, ne_eq, not_false_eq_true, implies_true, List.forall_mem_cons, List.not_mem_nil, false_imp_iff, Bool.or_false, Bool.false_or, Bool.or_self, Bool.true_or, Bool.or_true, forall_const, reduceCtorEq, List.mem_cons, or_false, forall_eq_or_imp, forall_eq, Nat.succ_ne_self, exists_eq_left, Option.some_inj, byte_ren, one_byte, ren_bytes, len_bytes, take_bytes, take_ints, nlS_0, nlS_1, nlM_0, nlM_1, nlN_0, nlN_1, take_bys1, ren_ints, len_ints]
      · simp only [rK, EntM, compat, apartM, keysBelow, frEnt, geto, eta, idHs, rd, SV.ren, SV.renL, Option.getD_some, Option.getD_none, List.getElem?_cons_zero, List.getElem?_cons_succ, List.getElem?_nil, List.length_cons, List.length_nil, Nat.zero_add, Nat.add_zero, Nat.reduceAdd, Nat.reduceSub, Nat.reduceEqDiff, Nat.reduceLT, Nat.reduceLeDiff, ↓reduceIte, Kind.isOwn, List.take_succ_cons, List.take_zero, List.nil_append, List.cons_append, List.append_nil, List.take_nil, and_self, and_true, true_and, exists_eq_left', Option.some.injEq, Blk.mk.injEq, Kind.own.injEq, List.drop_zero, List.take_length, Nat.le_refl, ne_eq, not_false_eq_true, implies_true, List.forall_mem_cons, List.not_mem_nil, false_imp_iff, Bool.or_false, Bool.false_or, Bool.or_self, Bool.true_or, Bool.or_true, forall_const, reduceCtorEq, List.mem_cons, or_false, forall_eq_or_imp, forall_eq, Nat.succ_ne_self, exists_eq_left, Option.some_inj, byte_ren, one_byte, ren_bytes, len_bytes, take_bytes, take_ints, nlS_0, nlS_1, nlM_0, nlM_1, nlN_0, nlN_1, take_bys1, ren_ints, len_ints]
    · obtain rfl : t = 64 := by omega
      rcases hRt : R 64 with ⟨a, bb, c, d, e, f, g, h⟩
      have hcomp : comp ⟨a0, a1, a2, a3, a4, a5, a6, a7⟩ b = V8.add ⟨a0, a1, a2, a3, a4, a5, a6, a7⟩ ⟨a, bb, c, d, e, f, g, h⟩ := by
        unfold comp; rw [← hRt, ← hRe]
      simp only [hRt]
      simp (config := { maxSteps := 1000000 }) only [callH, tab2, hsl, u32, SV.flatL, SV.flat, Bool.and_true, Bool.and_self, Bool.true_and, beq_self_eq_true, Int.reduceGE, Int.reduceGT, ↓u_callAnd, Blk.mk.injEq, List.cons.injEq, SV.int.injEq, SV.bool.injEq, SV.tup.injEq, SV.agg.injEq, and_self, undef, Int.reduceBNe, Int.reduceBEq, Nat.reduceBNe, Nat.reduceBEq, ↓u_callX, lookF, setv, finO_r, finO_n, finO_x, again_n, again_x, again_r, lookT, eqPat, eqTag, reduceCtorEq, Nat.reduceEqDiff, Nat.reduceAdd, Nat.reduceSub, Nat.reduceMul, Nat.reduceDiv, Nat.reduceLeDiff, Nat.reduceLT, Int.reduceToNat, Int.reduceLT, Int.reduceLE, Int.reduceAdd, Int.reduceSub, Int.reduceMul, Int.reduceNeg, Int.reduceEq, Int.reduceNe, wrap64, false_imp_iff, true_imp_iff, eq_self, decide_true, decide_false, Int.cast_ofNat_Int,  true_and, and_true, false_and, and_false, imp_self, implies_true, List.getElem?_cons_zero, List.getElem?_cons_succ, List.length_cons, List.length_nil, List.append_nil, List.nil_append, List.cons_append, List.take_succ_cons, List.take_zero, List.drop_succ_cons, List.drop_zero, List.take_nil, List.drop_nil, List.reverse_cons, List.reverse_nil, List.map_cons, List.map_nil, Nat.zero_add, Nat.add_zero, frOf, den_nil, den_o0, ↓gd_tt, ↓gd_ff, ↓gd_tf, ↓gd_ft, gd_any, den_o1, kont_app, den_g, setv, Bool.not_true, Bool.not_false, den_skip, den_reg, den_regD, den_regP, den_A, den_regW, den_W, den_bad, evW, baseD, stBlk, touch, clear, untouched, updsW, List.all_cons, List.all_nil, List.contains_cons, List.contains_nil, Bool.not_true, Bool.not_false, Bool.or_false, Bool.or_self, Bool.false_or, Bool.true_or, Bool.or_true, den_seq, den_cond, den_block, den_exit, den_ret, den_b, den_xb, den_xo, den_xc, den_xu, den_rb, den_ro, den_rc, den_ru, den_u, den_loopU, finP_r, finP_n, finP_x, finE_r, finE_n, finE_x, ↓reduceIte, ↓e_box, ↓e_build, ↓e_bslice, ↓e_load, ↓e_store, ↓e_idxS, ↓e_idxV, ↓e_idxT, ↓e_fieldV, ↓e_eqv, ↓e_isNil, ↓e_b2s, ↓e_slcS, ↓e_arrAt, ↓e_ext, ↓e_app, ↓e_copy, ↓e_mv, ↓e_pick, ↓e_new, ↓e_nilc, ↓e_fld, ↓e_idxA, ↓e_bin, ↓e_eqb, ↓e_un, ↓e_conv, ↓e_strS, ↓e_s2b, ↓e_mkfn, ↓e_mksl, ↓e_slcA, ↓e_slcT, ↓e_call, ↓e_callp, ↓e_callv, ↓e_len, ↓e_lenA, ↓e_mx, ↓e_mn, ↓e_mkmap, ↓e_mput, ↓e_mlen, ↓e_mk8, ↓e_capN, ↓e_appZ, ↓u_onInt, ↓u_onBool, ↓u_onOpt0, ↓u_onOpt1, ↓u_binV, ↓u_srcOf, ↓u_srcSl, ↓binI, ↓binS, ↓fillE, ↓evRes, evA, Opd.ev, Sx.get, put, putO, del, dels, frD, memD, pickD, kills, views, newer, rd, rm, upd, splice, keysOf, kvOf, SV.cells?, SV.one, retOf, ↓u_callS, canLW, canV, canC, belowL, apH, apH1, eta, SV.ren, SV.renL, newOwn, targets, rms, Kind.isOwn, ren_bytes, byte_ren, ren_ints, flat_ints, len_ints, List.getElem?_nil, Option.getD_none, Option.getD_some, Nat.sub_zero, not_true_eq_false, not_false_eq_true, Nat.le_refl, take_bytes, take_ints, nlS_0, nlS_1, nlM_0, nlM_1, nlN_0, nlN_1, take_bys1, map_byte, len_bytes, flat_bytes, Int.toNat_natCast, Nat.mul_one, Int.cast_ofNat_Int]
      rw [den_loop]
      refine den_unroll callH_ok (callT_point _ _) 5 ?_
      simp (config := { maxSteps := 1000000 }) only [callH, tab2, hsl, u32, z8, hcomp, V8.add, addI, SV.flatL, SV.flat, Bool.and_true, Bool.and_self, Bool.true_and, beq_self_eq_true, Int.reduceGE, Int.reduceGT, ↓u_callAnd, Blk.mk.injEq, List.cons.injEq, SV.int.injEq, SV.bool.injEq, SV.tup.injEq, SV.agg.injEq, and_self, undef, Int.reduceBNe, Int.reduceBEq, Nat.reduceBNe, Nat.reduceBEq, ↓u_callX, lookF, setv, finO_r, finO_n, finO_x, again_n, again_x, again_r, lookT, eqPat, eqTag, reduceCtorEq, Nat.reduceEqDiff, Nat.reduceAdd, Nat.reduceSub, Nat.reduceMul, Nat.reduceDiv, Nat.reduceLeDiff, Nat.reduceLT, Int.reduceToNat, Int.reduceLT, Int.reduceLE, Int.reduceAdd, Int.reduceSub, Int.reduceMul, Int.reduceNeg, Int.reduceEq, Int.reduceNe, wrap64, false_imp_iff, true_imp_iff, eq_self, decide_true, decide_false, Int.cast_ofNat_Int,  true_and, and_true, false_and, and_false, imp_self, implies_true, List.getElem?_cons_zero, List.getElem?_cons_succ, List.length_cons, List.length_nil, List.append_nil, List.nil_append, List.cons_append, List.take_succ_cons, List.take_zero, List.drop_succ_cons, List.drop_zero, List.take_nil, List.drop_nil, List.reverse_cons, List.reverse_nil, List.map_cons, List.map_nil, Nat.zero_add, Nat.add_zero, frOf, den_nil, den_o0, ↓gd_tt, ↓gd_ff, ↓gd_tf, ↓gd_ft, gd_any, den_o1, kont_app, den_g, setv, Bool.not_true, Bool.not_false, den_skip, den_reg, den_regD, den_regP, den_A, den_regW, den_W, den_bad, evW, baseD, stBlk, touch, clear, untouched, updsW, List.all_cons, List.all_nil, List.contains_cons, List.contains_nil, Bool.not_true, Bool.not_false, Bool.or_false, Bool.or_self, Bool.false_or, Bool.true_or, Bool.or_true, den_seq, den_cond, den_block, den_exit, den_ret, den_b, den_xb, den_xo, den_xc, den_xu, den_rb, den_ro, den_rc, den_ru, den_u, den_loopU, finP_r, finP_n, finP_x, finE_r, finE_n, finE_x, ↓reduceIte, ↓e_box, ↓e_build, ↓e_bslice, ↓e_load, ↓e_store, ↓e_idxS, ↓e_idxV, ↓e_idxT, ↓e_fieldV, ↓e_eqv, ↓e_isNil, ↓e_b2s, ↓e_slcS, ↓e_arrAt, ↓e_ext, ↓e_app, ↓e_copy, ↓e_mv, ↓e_pick, ↓e_new, ↓e_nilc, ↓e_fld, ↓e_idxA, ↓e_bin, ↓e_eqb, ↓e_un, ↓e_conv, ↓e_strS, ↓e_s2b, ↓e_mkfn, ↓e_mksl, ↓e_slcA, ↓e_slcT, ↓e_call, ↓e_callp, ↓e_callv, ↓e_len, ↓e_lenA, ↓e_mx, ↓e_mn, ↓e_mkmap, ↓e_mput, ↓e_mlen, ↓e_mk8, ↓e_capN, ↓e_appZ, ↓u_onInt, ↓u_onBool, ↓u_onOpt0, ↓u_onOpt1, ↓u_binV, ↓u_srcOf, ↓u_srcSl, ↓binI, ↓binS, ↓fillE, ↓evRes, evA, Opd.ev, Sx.get, put, putO, del, dels, frD, memD, pickD, kills, views, newer, rd, rm, upd, splice, keysOf, kvOf, SV.cells?, SV.one, retOf, ↓u_callS, canLW, canV, canC, belowL, apH, apH1, eta, SV.ren, SV.renL, newOwn, targets, rms, Kind.isOwn, ren_bytes, byte_ren, ren_ints, flat_ints, len_ints, List.getElem?_nil, Option.getD_none, Option.getD_some, Nat.sub_zero, not_true_eq_false, not_false_eq_true, Nat.le_refl, take_bytes, take_ints, nlS_0, nlS_1, nlM_0, nlM_1, nlN_0, nlN_1, take_bys1, map_byte, len_bytes, flat_bytes, Int.toNat_natCast, Nat.mul_one, Int.cast_ofNat_Int]
end Go.Proofs.YtkfbkooobfepeaaDoor

/- SHA-256 of package hash: compress, as a contract by value. -/
namespace Go.Proofs.YtkfbkooobfepeaaDoor
open Go Go.Sx Sf
set_option maxRecDepth 100000
set_option linter.unusedSimpArgs false
set_option linter.unusedVariables false

def g73 : GS
  | [.agg [.int .u32 a, .int .u32 b, .int .u32 c, .int .u32 d, .int .u32 e, .int .u32 f, .int .u32 g, .int .u32 h], .slc 0 0 1 64 cap], [(0, ⟨.view, cells⟩)] => match unI8 cells with
    | some bl => match Nat.beq bl.length 64, capB cap 64 with
      | true, true => some (.agg ((comp ⟨a, b, c, d, e, f, g, h⟩ bl).l.map u32), [], 1)
      | _, _ => none
    | none => none
  | _, _ => none
theorem g73_ok : FunS Tryd.prog tH 73 g73 := by
  intro a0 m0 r m1 n1 hh
  unfold g73 at hh
  split at hh
  · rename_i a b c d e f g h cap cells
    split at hh
    · rename_i bl hb
      split at hh
      · rename_i h1 h2
        cases hh
        rw [unI8_some hb]
        exact ⟨f73 ⟨a, b, c, d, e, f, g, h⟩ bl (Nat.eq_of_beq_eq_true h1) cap (capB_ok h2), by simp [freshB]⟩
      · cases hh
    · cases hh
  · cases hh
end Go.Proofs.YtkfbkooobfepeaaDoor

/- The engine, part Rd: a function that is run. -/
namespace Go.Sx
open Go
set_option linter.unusedSimpArgs false
set_option linter.unusedVariables false

theorem fun_less {P : Program} {T : List (Nat × List SV)} {f : FuncId} {args : List SV} {m : Mem} {n : Nat} {r : SV} {m1 : Mem} {n1 : Nat} (F : Fun P T f args m n r m1 n1) : Fun P T f args m n r [] n1 := by
  refine ⟨F.fok, F.le, fun ρ w vals R X hv => (F.run ρ w vals R X hv).mono ?_⟩
  rintro e w' ⟨x, ρ', h1, h2, h3, h4⟩
  exact ⟨x, ρ', h1, h2, h3, h4.sub (by simp) (Nat.le_refl _)⟩

theorem fun_of_run {P : Program} {T : List (Nat × List SV)} {Tb : FuncId → Option SF} (hT : TbOk P Tb) {X : RunF} (hX : RunOk X (callT P T)) {u d : Nat} {f : FuncId} {args : List SV} {r : SV}
    (hx : X f args [] 0 = none) (h : runF Tb T X u (d + 1) f args [] 0 = some (r, [], 0)) : Fun P T f args [] 0 r [] 0 := by
  simp only [runF, hx] at h
  split at h
  · cases h
  · rename_i sf hf
    split at h
    · split at h
      · rename_i hl
        have hl := Nat.le_of_ble_eq_true hl
        split at h
        · cases h
        · rename_i hr
          split at h
          · rename_i h3
            obtain ⟨m1, hc, _⟩ := backR_some h
            exact fun_less (runF_fun hT (runF_ok hT hX d) hf hl hr (fun j => by simp) h3 hc)
          · cases h
        · rename_i hr
          split at h
          · rename_i h3
            obtain ⟨m1, hc, _⟩ := backR_some h
            exact fun_less (runF_fun hT (runF_ok hT hX d) hf hl hr (fun j => by simp) h3 hc)
          · cases h
        · cases h
      · cases h
    · cases h

/-- more tables do no harm -/
theorem Fun.more {P : Program} {T T' : List (Nat × List SV)} (hT : ∀ x ∈ T, x ∈ T') {f : FuncId} {args : List SV} {m : Mem} {n : Nat} {r : SV} {m1 : Mem} {n1 : Nat} (F : Fun P T f args m n r m1 n1) : Fun P T' f args m n r m1 n1 := by
  refine ⟨F.fok, F.le, fun ρ w vals R X hv => (F.run ρ w vals ?_ ?_ hv).mono ?_⟩
  · exact ⟨R.blk, R.apart, R.fresh, R.wrt, R.size, R.frame, R.keep, R.side⟩
  · exact ⟨fun g cs h => X.tab g cs (hT _ h), fun g cs h => X.nwr g cs (hT _ h)⟩
  · rintro e w' ⟨x, ρ', h1, h2, h3, R'⟩
    exact ⟨x, ρ', h1, h2, h3, ⟨R'.blk, R'.apart, R'.fresh, R'.wrt, R'.size, R'.frame, R'.keep, R'.side⟩⟩
theorem FunS.more {P : Program} {T T' : List (Nat × List SV)} (hT : ∀ x ∈ T, x ∈ T') {f : FuncId} {g : GS} (F : FunS P T f g) : FunS P T' f g := fun a0 m0 r m1 n1 h =>
  ⟨((F a0 m0 r m1 n1 h).1).more hT, (F a0 m0 r m1 n1 h).2⟩
end Go.Sx

/- The sanity of the laws: true. -/
namespace Go.Proofs.YtkfbkooobfepeaaDoor
open Go Go.Sx Sf
set_option maxRecDepth 100000
theorem sane_run : runF tb tH (runS [(73, g73)]) 300 30 9 [] [] 0 = some (.bool true, [], 0) := by kernel_rfl
theorem sane_x : runS [(73, g73)] 9 [] [] 0 = none := rfl
/-- the sanity of the laws is true -/
theorem f9 : Fun Tryd.prog tH 9 [] [] 0 (.bool true) [] 0 :=
  fun_of_run tb_ok (runS_ok (fun x h => by simp only [List.mem_singleton] at h; subst h; exact g73_ok)) sane_x sane_run
def gSane : GS
  | [], [] => some (.bool true, [], 0)
  | _, _ => none
theorem gSane_ok : FunS Tryd.prog tH 9 gSane := by
  intro a0 m0 r m1 n1 h
  unfold gSane at h
  split at h
  · cases h; exact ⟨f9, by simp [freshB]⟩
  · cases h
end Go.Proofs.YtkfbkooobfepeaaDoor

/- The engine, part Y: from what the engine knows of a function to a contract of the model. -/
namespace Go.Sx
open Go Go.WideShapes Go.ChangeShapes
set_option linter.unusedSimpArgs false
set_option linter.unusedVariables false

def noEnv : Env := fun _ => none

theorem keptBut_of_heap {w w' : World} (hs : w'.os = w.os ∧ w'.output = w.output) (h : ∀ b, b < w.heap.size → w'.heap[b]? = w.heap[b]?) : w.keptBut w' fun _ => False := by
  refine ⟨hs.1, hs.2, fun i hi => ?_⟩
  rw [h i hi]
  cases ho : w.heap[i]? with
  | none => rfl
  | some o =>
    cases o <;> simp

/-- a function of plain values, in the model's calculus -/
theorem calls_of_fun {P : Program} {T : List (Nat × List SV)} {f : FuncId} {args : List SV} {b : Bool} (F : Fun P T f args [] 0 (.bool b) [] 0) {w : World} {vals : List Value}
    (hT : TabOk T w) (hv : SV.isL noEnv args vals) :
    Calls P f vals.toArray w fun e w' => e = .returned (.bool b) ∧ w.keptBut w' (fun _ => False) := by
  refine (F.run noEnv w vals ?_ ?_ hv).mono ?_
  · refine ⟨fun i B h => by simp at h, fun i B j B' L L' b h => by simp at h, fun i _ => rfl, fun i B L b h => by simp at h, Nat.le_refl _, fun _ _ _ => rfl, fun _ _ => rfl, rfl, rfl⟩
  · exact ⟨hT, fun g cs _ ho => by obtain ⟨i, B, L, h, _⟩ := ho; simp at h⟩
  · rintro e w' ⟨x, ρ', rfl, _, h2, h3⟩
    have hx : x = .bool b := by simpa only [SV.is] using h2
    subst hx
    exact ⟨rfl, keptBut_of_heap h3.side fun b hb => h3.frame b hb (fun ho => by obtain ⟨i, B, L, h, _⟩ := ho; simp at h)⟩

/-- what a law's row asks behind the call, where nothing that was there has changed -/
theorem post_kept {H : Type} {enc : TypeId × Value → H} {P : Program} {f : Func} {s : ChangeSpec} {apart fresh handsOn : Bool} {W W' : World} {args : Array Value} {v : Value} {ds gs : List (DataW H)} {before pa pv : List MemPlace}
    (hW : DataW.Whole enc P f.params.toList s.vars apart W args.toList ds gs before)
    (hres : ∀ (b : Nat) (sp : Nat → Bool) (hd : Bool), DataW.TrodAll enc P W' b sp hd f.resultTypes.toList (v.resultList f.resultTypes.size) (s.fn H (ds ++ gs)).results [])
    (hargs : ∀ sp : Nat → Bool, (∀ p ∈ before, sp p.block = true) → DataW.TrodAll enc P W' 0 sp true f.params.toList args.toList (s.fn H (ds ++ gs)).args pa)
    (hvars : ∀ sp : Nat → Bool, (∀ p ∈ before, sp p.block = true) → DataW.TrodVars enc P W' sp s.vars (s.fn H (ds ++ gs)).vars pv)
    (hk : W.keptBut W' (fun _ => False)) : s.post enc P f apart fresh handsOn false W args v W' := by
  have hold : ∀ p ∈ before, (fun b => decide (b < W.heap.size)) p.block = true := fun p hp => by simpa using hW.lt p hp
  exact ⟨ds, gs, before, [], pa, pv, hW, hres _ _ _, hargs _ hold, hvars _ hold, World.keptBut_mono (fun p hp => hp.elim) hk, fun h => by cases h⟩
end Go.Sx

/- The engine, part Z: the reading of plain data does not look at the world. -/
namespace Go.Sx
open Go Go.WideShapes Go.ChangeShapes
set_option linter.unusedSimpArgs false
set_option linter.unusedVariables false

def plainTy (P : Program) : Nat → TypeId → Bool
  | 0, _ => false
  | d + 1, t => match P.underlying t with
    | some .bool | some (.int _) | some .string => true
    | some (.struct fs) => fs.toList.all fun f => plainTy P d f.type
    | some (.array _ e) => plainTy P d e
    | _ => false

theorem mapM_congr' {α β : Type} {f g : α → Option β} : ∀ (l : List α), (∀ x ∈ l, f x = g x) → l.mapM f = l.mapM g
  | [], _ => rfl
  | x :: l, h => by
    simp only [List.mapM_cons]
    rw [h x List.mem_cons_self, mapM_congr' l fun y hy => h y (List.mem_cons_of_mem _ hy)]

theorem trod_plain {H : Type} {enc : TypeId × Value → H} {P : Program} {w w' : World} {b b' : Nat} {sp sp' : Nat → Bool} {hd hd' : Bool} :
    ∀ (fuel d : Nat) (t : TypeId) (cs : List Value), plainTy P d t = true → DataW.trod enc P w b sp hd fuel t cs = DataW.trod enc P w' b' sp' hd' fuel t cs
  | 0, _, _, _, _ => rfl
  | fuel + 1, 0, _, _, h => by simp [plainTy] at h
  | fuel + 1, d + 1, t, cs, h => by
    simp only [plainTy] at h
    unfold DataW.trod
    split at h
    · rename_i hu; simp only [hu]; rcases cs with _ | ⟨c, _ | ⟨c', r⟩⟩ <;> (try cases c) <;> rfl
    · rename_i hu; simp only [hu]; rcases cs with _ | ⟨c, _ | ⟨c', r⟩⟩ <;> (try cases c) <;> rfl
    · rename_i hu; simp only [hu]; rcases cs with _ | ⟨c, _ | ⟨c', r⟩⟩ <;> (try cases c) <;> rfl
    · rename_i fs hu
      simp only [hu]
      have : (fs.toList.mapM fun f => DataW.trod enc P w b sp hd fuel f.type ((cs.drop f.offset).take (P.cellsOf f.type))) = fs.toList.mapM fun f => DataW.trod enc P w' b' sp' hd' fuel f.type ((cs.drop f.offset).take (P.cellsOf f.type)) := by
        exact mapM_congr' _ fun f hf => trod_plain fuel d _ _ (List.all_eq_true.1 h f hf)
      rw [this]
    · rename_i n e hu
      simp only [hu]
      have : ((List.range n).mapM fun i => DataW.trod enc P w b sp hd fuel e ((cs.drop (i * P.cellsOf e)).take (P.cellsOf e))) = (List.range n).mapM fun i => DataW.trod enc P w' b' sp' hd' fuel e ((cs.drop (i * P.cellsOf e)).take (P.cellsOf e)) := by
        congr 1
        funext i
        exact trod_plain fuel d _ _ h
      rw [this]
    · cases h
end Go.Sx

/- The engine, part Za: plain data of integers, opened. -/
namespace Go.Sx
open Go Go.WideShapes Go.ChangeShapes
set_option linter.unusedSimpArgs false
set_option linter.unusedVariables false

/-- the integers that lie one behind the other in a value of the type -/
def layFs (lay : TypeId → Option (List IntKind)) (P : Program) : List Field → Nat → Option (List IntKind)
  | [], _ => some []
  | f :: r, o => match lay f.type, layFs lay P r (o + P.cellsOf f.type) with
    | some a, some b => if f.offset = o ∧ a.length = P.cellsOf f.type then some (a ++ b) else none
    | _, _ => none
def reps {α : Type} (l : List α) : Nat → List α
  | 0 => []
  | k + 1 => l ++ reps l k
def layT (P : Program) : Nat → TypeId → Option (List IntKind)
  | 0, _ => none
  | d + 1, t => match P.underlying t with
    | some (.int k) => some [k]
    | some (.struct fs) => match layFs (layT P d) P fs.toList 0 with
      | some l => if l.length = P.cellsOf t then some l else none
      | none => none
    | some (.array n e) => match layT P d e with
      | some l => if l.length = P.cellsOf e ∧ n * l.length = P.cellsOf t then some (reps l n) else none
      | none => none
    | _ => none

inductive Ints : List IntKind → List Value → Prop
  | nil : Ints [] []
  | cons {k : IntKind} {n : Int} {ks : List IntKind} {vs : List Value} : (Lit.int k n).wf = true → Ints ks vs → Ints (k :: ks) (.int k n :: vs)

theorem Ints.append {a b : List IntKind} {x y : List Value} (h : Ints a x) (h' : Ints b y) : Ints (a ++ b) (x ++ y) := by
  induction h with
  | nil => exact h'
  | cons hw _ ih => exact .cons hw ih

section
variable {H : Type} {enc : TypeId × Value → H} {P : Program} {w : World} {b : Nat} {sp : Nat → Bool} {hd : Bool}

theorem mapM_some_cons {α β : Type} {f : α → Option β} {a : α} {l : List α} {r : List β} (h : (a :: l).mapM f = some r) : ∃ y ys, f a = some y ∧ l.mapM f = some ys ∧ r = y :: ys := by
  rw [List.mapM_cons] at h
  cases hf : f a with
  | none => simp [hf] at h
  | some y =>
    cases hl : l.mapM f with
    | none => simp [hf, hl] at h
    | some ys => simp [hf, hl] at h; exact ⟨y, ys, rfl, rfl, h.symm⟩

theorem fields_ints {lay : TypeId → Option (List IntKind)} {tr : TypeId → List Value → Option (DataW H × List MemPlace)}
    (ih : ∀ t cs ks x, lay t = some ks → tr t cs = some x → cs.length = P.cellsOf t → Ints ks cs ∧ x.2 = []) :
    ∀ (fs : List Field) (o : Nat) (cs : List Value) (ks : List IntKind) (xs : List (DataW H × List MemPlace)), layFs lay P fs o = some ks →
      fs.mapM (fun f => tr f.type ((cs.drop f.offset).take (P.cellsOf f.type))) = some xs → o + ks.length ≤ cs.length →
      Ints ks ((cs.drop o).take ks.length) ∧ xs.flatMap (·.2) = []
  | [], o, cs, ks, xs, h, hx, _ => by
    simp [layFs] at h; subst h
    simp at hx; subst hx
    exact ⟨by simpa using Ints.nil, rfl⟩
  | f :: r, o, cs, ks, xs, h, hx, hl => by
    simp only [layFs] at h
    obtain ⟨y, ys, h1, h2, rfl⟩ := mapM_some_cons hx
    split at h
    · rename_i a b' ha hb
      split at h
      · rename_i hq
        cases h
        obtain ⟨q1, q2⟩ := hq
        simp only [List.length_append] at hl
        rw [q1] at h1
        obtain ⟨g1, g2⟩ := ih _ _ _ _ ha h1 (by simp; omega)
        obtain ⟨g3, g4⟩ := fields_ints ih r _ cs _ ys hb h2 (by omega)
        refine ⟨?_, by simp [g2, g4]⟩
        have e : (cs.drop o).take (a ++ b').length = (cs.drop o).take (P.cellsOf f.type) ++ (cs.drop (o + P.cellsOf f.type)).take b'.length := by
          rw [List.length_append, q2, List.take_add, List.drop_drop]
        rw [e]
        exact g1.append g3
      · cases h
    · cases h

theorem array_ints {l : List IntKind} {g : List Value → Option (DataW H × List MemPlace)}
    (ih : ∀ cs x, g cs = some x → cs.length = l.length → Ints l cs ∧ x.2 = []) :
    ∀ (n o : Nat) (cs : List Value) (xs : List (DataW H × List MemPlace)),
      (List.range' o n).mapM (fun i => g ((cs.drop (i * l.length)).take l.length)) = some xs → (o + n) * l.length ≤ cs.length →
      Ints (reps l n) ((cs.drop (o * l.length)).take (n * l.length)) ∧ xs.flatMap (·.2) = []
  | 0, o, cs, xs, hx, _ => by
    simp at hx; subst hx
    exact ⟨by simpa [reps] using Ints.nil, rfl⟩
  | n + 1, o, cs, xs, hx, hl => by
    rw [List.range'_succ] at hx
    obtain ⟨y, ys, h1, h2, rfl⟩ := mapM_some_cons hx
    have hl1 : o * l.length + l.length ≤ cs.length := by
      have : (o + (n + 1)) * l.length = o * l.length + l.length + n * l.length := by rw [Nat.add_mul, Nat.add_mul]; omega
      omega
    obtain ⟨g1, g2⟩ := ih _ _ h1 (by simp; omega)
    obtain ⟨g3, g4⟩ := array_ints ih n (o + 1) cs ys h2 (by rw [show o + 1 + n = o + (n + 1) by omega]; exact hl)
    refine ⟨?_, by simp [g2, g4]⟩
    have e : (cs.drop (o * l.length)).take ((n + 1) * l.length) = (cs.drop (o * l.length)).take l.length ++ (cs.drop ((o + 1) * l.length)).take (n * l.length) := by
      rw [show (n + 1) * l.length = l.length + n * l.length by rw [Nat.add_mul]; omega, List.take_add, List.drop_drop, Nat.add_mul o 1, Nat.one_mul]
    rw [e]
    exact g1.append g3

/-- PLAIN DATA OF INTEGERS, OPENED -/
theorem trod_ints : ∀ (fuel d : Nat) (t : TypeId) (cs : List Value) (ks : List IntKind) (x : DataW H × List MemPlace), layT P d t = some ks →
    DataW.trod enc P w b sp hd fuel t cs = some x → Ints ks cs ∧ x.2 = []
  | 0, d, t, cs, ks, x, _, hx => by simp [DataW.trod] at hx
  | fuel + 1, 0, t, cs, ks, x, h, _ => by simp [layT] at h
  | fuel + 1, d + 1, t, cs, ks, x, h, hx => by
    simp only [layT] at h
    split at h
    · rename_i k hu
      cases h
      obtain ⟨n, rfl, rfl, hw⟩ := DataW.trod_int hu hx
      exact ⟨.cons hw .nil, rfl⟩
    · rename_i fs hu
      split at h
      · rename_i l hl
        split at h
        · rename_i hlen
          cases h
          simp only [DataW.trod, hu] at hx
          split at hx
          · rename_i hcl
            obtain ⟨xs, hm, rfl⟩ := Option.map_eq_some_iff.1 hx
            obtain ⟨g1, g2⟩ := fields_ints (P := P) (lay := layT P d) (tr := DataW.trod enc P w b sp hd fuel)
              (fun t cs ks x h1 h2 _ => trod_ints fuel d t cs ks x h1 h2) fs.toList 0 cs _ xs hl hm (by omega)
            rw [List.drop_zero, List.take_of_length_le (by omega)] at g1
            exact ⟨g1, g2⟩
          · cases hx
        · cases h
      · cases h
    · rename_i n e hu
      split at h
      · rename_i l hl
        split at h
        · rename_i hq
          cases h
          obtain ⟨q1, q2⟩ := hq
          simp only [DataW.trod, hu] at hx
          split at hx
          · rename_i hcl
            obtain ⟨xs, hm, rfl⟩ := Option.map_eq_some_iff.1 hx
            rw [← q1, List.range_eq_range'] at hm
            obtain ⟨g1, g2⟩ := array_ints (l := l) (g := DataW.trod enc P w b sp hd fuel e) (fun cs x h1 _ => trod_ints fuel d e cs l x hl h1) n 0 cs xs hm (by rw [Nat.zero_add]; omega)
            rw [Nat.zero_mul, List.drop_zero, List.take_of_length_le (by omega)] at g1
            exact ⟨g1, g2⟩
          · cases hx
        · cases h
      · cases h
    · cases h
end
end Go.Sx

/- The engine, part Zb: plain data, with slices of plain data in it, opened. -/
namespace Go.Sx
open Go Go.WideShapes Go.ChangeShapes
set_option linter.unusedSimpArgs false
set_option linter.unusedVariables false

/-- what a cell of data holds: something plain, or a slice of rows of plain cells -/
inductive LK where
  | t (t : Tag)
  | sl (ks : List Tag)

def lkTags : List LK → Option (List Tag)
  | [] => some []
  | .t t :: r => match lkTags r with
    | some l => some (t :: l)
    | none => none
  | .sl _ :: _ => none

def lkFs (lay : TypeId → Option (List LK)) (P : Program) : List Field → Nat → Option (List LK)
  | [], _ => some []
  | f :: r, o => match lay f.type, lkFs lay P r (o + P.cellsOf f.type) with
    | some a, some b => if f.offset = o ∧ a.length = P.cellsOf f.type then some (a ++ b) else none
    | _, _ => none
def lkT (P : Program) : Nat → TypeId → Option (List LK)
  | 0, _ => none
  | d + 1, t => match P.underlying t with
    | some .bool => some [.t .b]
    | some (.int k) => some [.t (.i k)]
    | some .string => some [.t .s]
    | some (.slice e) => match lkT P d e with
      | some l => match lkTags l with
        | some ks => if ks.length = P.cellsOf e ∧ 0 < ks.length then some [.sl ks] else none
        | none => none
      | none => none
    | some (.struct fs) => match lkFs (lkT P d) P fs.toList 0 with
      | some l => if l.length = P.cellsOf t then some l else none
      | none => none
    | some (.array n e) => match lkT P d e with
      | some l => if l.length = P.cellsOf e ∧ n * l.length = P.cellsOf t then some (reps l n) else none
      | none => none
    | _ => none

def TagOk : Tag → Value → Prop
  | .i k, v => ∃ n, v = .int k n ∧ (Lit.int k n).wf = true
  | .b, v => ∃ b, v = .bool b
  | .s, v => ∃ s : List UInt8, v = .string ⟨s.toArray⟩ ∧ s.length ≤ maxLen

def LkOk (w : World) : LK → Value → Prop
  | .t t, v => TagOk t v
  | .sl ks, v => ∃ A len cap, v = .slice A len cap ∧ len ≤ cap ∧ cap ≤ maxLen ∧ 0 < ks.length ∧ (A = none → cap = 0) ∧
      (∀ a, A = some a → 0 < cap → a.spot = none ∧ a.block < w.heap.size) ∧
      ∀ a, A = some a → ∀ i, i < len → ∀ (j : Nat) k, ks[j]? = some k → ∃ x, w.cell? ⟨a.block, a.off + (i * ks.length + j), none⟩ = some x ∧ TagOk k x

inductive Lks (w : World) : List LK → List Value → Prop
  | nil : Lks w [] []
  | cons {k : LK} {v : Value} {ks : List LK} {vs : List Value} : LkOk w k v → Lks w ks vs → Lks w (k :: ks) (v :: vs)

theorem Lks.append {w : World} {a b : List LK} {x y : List Value} (h : Lks w a x) (h' : Lks w b y) : Lks w (a ++ b) (x ++ y) := by
  induction h with
  | nil => exact h'
  | cons hw _ ih => exact .cons hw ih

theorem Lks.tags {w : World} : ∀ {l : List LK} {cs : List Value} {ks : List Tag}, Lks w l cs → lkTags l = some ks → ∀ (j : Nat) k, ks[j]? = some k → ∃ x, cs[j]? = some x ∧ TagOk k x
  | _, _, ks, .nil, h, j, k, hk => by simp [lkTags] at h; subst h; simp at hk
  | .t t :: l, v :: vs, ks, .cons h1 h2, h, j, k, hk => by
    simp only [lkTags] at h
    split at h
    · rename_i q hq
      cases h
      cases j with
      | zero => simp at hk; subst hk; exact ⟨v, rfl, h1⟩
      | succ j => simpa using Lks.tags h2 hq j k (by simpa using hk)
    · cases h
  | .sl _ :: _, _ :: _, _, .cons _ _, h, _, _, _ => by simp [lkTags] at h

section
variable {H : Type} {enc : TypeId × Value → H} {P : Program} {w : World} {hd : Bool}

theorem fields_lks {lay : TypeId → Option (List LK)} {tr : TypeId → List Value → Option (DataW H × List MemPlace)}
    (ih : ∀ t cs ks x, lay t = some ks → tr t cs = some x → Lks w ks cs) :
    ∀ (fs : List Field) (o : Nat) (cs : List Value) (ks : List LK) (xs : List (DataW H × List MemPlace)), lkFs lay P fs o = some ks →
      fs.mapM (fun f => tr f.type ((cs.drop f.offset).take (P.cellsOf f.type))) = some xs → o + ks.length ≤ cs.length →
      Lks w ks ((cs.drop o).take ks.length)
  | [], o, cs, ks, xs, h, hx, _ => by
    simp [lkFs] at h; subst h
    simpa using Lks.nil
  | f :: r, o, cs, ks, xs, h, hx, hl => by
    simp only [lkFs] at h
    obtain ⟨y, ys, h1, h2, rfl⟩ := mapM_some_cons hx
    split at h
    · rename_i a b' ha hb
      split at h
      · rename_i hq
        cases h
        obtain ⟨q1, q2⟩ := hq
        simp only [List.length_append] at hl
        rw [q1] at h1
        have g1 := ih _ _ _ _ ha h1
        have g3 := fields_lks ih r _ cs _ ys hb h2 (by omega)
        have e : (cs.drop o).take (a ++ b').length = (cs.drop o).take (P.cellsOf f.type) ++ (cs.drop (o + P.cellsOf f.type)).take b'.length := by
          rw [List.length_append, q2, List.take_add, List.drop_drop]
        rw [e]
        exact g1.append g3
      · cases h
    · cases h

theorem array_lks {l : List LK} {g : List Value → Option (DataW H × List MemPlace)}
    (ih : ∀ cs x, g cs = some x → Lks w l cs) :
    ∀ (n o : Nat) (cs : List Value) (xs : List (DataW H × List MemPlace)),
      (List.range' o n).mapM (fun i => g ((cs.drop (i * l.length)).take l.length)) = some xs → (o + n) * l.length ≤ cs.length →
      Lks w (reps l n) ((cs.drop (o * l.length)).take (n * l.length))
  | 0, o, cs, xs, hx, _ => by simpa [reps] using Lks.nil
  | n + 1, o, cs, xs, hx, hl => by
    rw [List.range'_succ] at hx
    obtain ⟨y, ys, h1, h2, rfl⟩ := mapM_some_cons hx
    have g1 := ih _ _ h1
    have g3 := array_lks ih n (o + 1) cs ys h2 (by rw [show o + 1 + n = o + (n + 1) by omega]; exact hl)
    have e : (cs.drop (o * l.length)).take ((n + 1) * l.length) = (cs.drop (o * l.length)).take l.length ++ (cs.drop ((o + 1) * l.length)).take (n * l.length) := by
      rw [show (n + 1) * l.length = l.length + n * l.length by rw [Nat.add_mul]; omega, List.take_add, List.drop_drop, Nat.add_mul o 1, Nat.one_mul]
    rw [e]
    exact g1.append g3

theorem cells_get {base : Nat} {a : Addr} {n : Nat} {cs : List Value} (h : w.cells? base a n = some cs) : cs.length = n ∧ ∀ j, j < n → w.cell? (a.add j) = cs[j]? := by
  unfold World.cells? at h
  split at h
  · have key : ∀ (l : List Nat) (r : List Value), l.mapM (fun i => w.cell? (a.add i)) = some r → r.length = l.length ∧ ∀ (j : Nat) i, l[j]? = some i → w.cell? (a.add i) = r[j]? := by
      intro l
      induction l with
      | nil => intro r hr; simp at hr; subst hr; exact ⟨rfl, fun j i hj => by simp at hj⟩
      | cons i l ih =>
        intro r hr
        obtain ⟨y, ys, h1, h2, rfl⟩ := mapM_some_cons hr
        obtain ⟨e1, e2⟩ := ih _ h2
        refine ⟨by simp [e1], fun j i' hj => ?_⟩
        cases j with
        | zero => simp at hj; subst hj; simpa using h1
        | succ j => simpa using e2 j i' (by simpa using hj)
    obtain ⟨e1, e2⟩ := key _ _ h
    exact ⟨by simpa using e1, fun j hj => e2 j j (by simp [hj])⟩
  · cases h

theorem cell?_lt_any {a : Addr} {x : Value} (h : w.cell? a = some x) : a.block < w.heap.size := by
  unfold World.cell? at h
  rcases Nat.lt_or_ge a.block w.heap.size with h' | h'
  · exact h'
  · simp [Array.getElem?_eq_none h'] at h

theorem add_cell {a : Addr} {n : Nat} {x : Value} (h : w.cell? (a.add n) = some x) (hs : a.spot = none) : w.cell? ⟨a.block, a.off + n, none⟩ = some x := by
  unfold Addr.add at h
  split at h
  · rename_i e; subst e
    obtain ⟨b, o, s⟩ := a
    simp only at hs; subst hs; simpa using h
  · exact h

/-- PLAIN DATA, OPENED -/
theorem trod_lks : ∀ (fuel d : Nat) (t : TypeId) (cs : List Value) (ks : List LK) (x : DataW H × List MemPlace), lkT P d t = some ks →
    DataW.trod enc P w 0 (fun _ => true) hd fuel t cs = some x → Lks w ks cs
  | 0, d, t, cs, ks, x, _, hx => by simp [DataW.trod] at hx
  | fuel + 1, 0, t, cs, ks, x, h, _ => by simp [lkT] at h
  | fuel + 1, d + 1, t, cs, ks, x, h, hx => by
    simp only [lkT] at h
    split at h
    · rename_i hu
      cases h
      obtain ⟨n, rfl, rfl⟩ := DataW.trod_bool hu hx
      exact .cons ⟨n, rfl⟩ .nil
    · rename_i k hu
      cases h
      obtain ⟨n, rfl, rfl, hw⟩ := DataW.trod_int hu hx
      exact .cons ⟨n, rfl, hw⟩ .nil
    · rename_i hu
      cases h
      obtain ⟨n, rfl, rfl, hw⟩ := DataW.trod_string hu hx
      exact .cons ⟨n.data.toList, by simp, by simpa using hw⟩ .nil
    · rename_i e hu
      split at h
      · rename_i l hl
        split at h
        · rename_i tg htg
          split at h
          · rename_i hq
            cases h
            obtain ⟨q1, q2⟩ := hq
            rcases DataW.trod_slice hu hx with ⟨rfl, rfl⟩ | ⟨a, len, cap, elems, rest, n, hf, rfl, rfl, hb, hlc, hcm, hel, he, hr, _⟩
            · exact .cons ⟨none, 0, 0, rfl, Nat.le_refl _, by unfold maxLen; omega, q2, fun _ => rfl, fun a h => by simp at h, fun a h => by simp at h⟩ .nil
            · obtain rfl : fuel = n := by omega
              obtain ⟨hrl, hr⟩ := hr rfl
              have hfirst : 0 < cap → a.spot = none ∧ a.block < w.heap.size := by
                intro hc
                have : ∃ y, (w.cells? 0 (a.add 0) (P.cellsOf e)).bind (DataW.trod enc P w 0 (fun _ => true) hd fuel e) = some y := by
                  by_cases h0 : 0 < len
                  · have h1 := he 0 h0
                    rw [Nat.zero_mul] at h1
                    rw [h1, List.getElem?_eq_getElem (by omega)]; exact ⟨_, rfl⟩
                  · have h1 := hr 0 (by omega)
                    rw [show (len + 0) * P.cellsOf e = 0 by rw [show len + 0 = 0 by omega, Nat.zero_mul]] at h1
                    rw [h1, List.getElem?_eq_getElem (by omega)]; exact ⟨_, rfl⟩
                obtain ⟨y, hy⟩ := this
                obtain ⟨cs', hcs, _⟩ := Option.bind_eq_some_iff.1 hy
                obtain ⟨g1, g2⟩ := cells_get hcs
                have g3 := g2 0 (by omega)
                rw [List.getElem?_eq_getElem (by omega)] at g3
                have e0 : (a.add 0).add 0 = a := by simp [Addr.add]
                rw [e0] at g3
                exact ⟨World.cell?_spot g3, cell?_lt_any g3⟩
              refine .cons ⟨some a, len, cap, rfl, hlc, hcm, q2, fun h => (nomatch h), fun a' h => by cases h; exact hfirst, fun a' h i hi j k hk => ?_⟩ .nil
              cases h
              have hs := (hfirst (by omega)).1
              have h1 := he i hi
              rw [List.getElem?_eq_getElem (by omega)] at h1
              obtain ⟨cs', hcs, htr⟩ := Option.bind_eq_some_iff.1 h1
              obtain ⟨g1, g2⟩ := cells_get hcs
              have g3 := trod_lks fuel d e cs' l _ hl htr
              obtain ⟨x, hx1, hx2⟩ := g3.tags htg j k hk
              have hj : j < tg.length := by
                rcases Nat.lt_or_ge j tg.length with q | q
                · exact q
                · rw [List.getElem?_eq_none q] at hk; cases hk
              have g4 := g2 j (by omega)
              rw [hx1] at g4
              refine ⟨x, ?_, hx2⟩
              rw [q1]
              have hs' : (a.add (i * P.cellsOf e)).spot = none := by unfold Addr.add; split <;> simp [hs]
              have g5 := add_cell g4 hs'
              have : (⟨(a.add (i * P.cellsOf e)).block, (a.add (i * P.cellsOf e)).off + j, none⟩ : Addr) = ⟨a.block, a.off + (i * P.cellsOf e + j), none⟩ := by
                unfold Addr.add; split
                · rename_i e0; rw [e0]; simp
                · simp [Nat.add_assoc]
              rwa [this] at g5
          · cases h
        · cases h
      · cases h
    · rename_i fs hu
      split at h
      · rename_i l hl
        split at h
        · rename_i hlen
          cases h
          simp only [DataW.trod, hu] at hx
          split at hx
          · rename_i hcl
            obtain ⟨xs, hm, rfl⟩ := Option.map_eq_some_iff.1 hx
            have g1 := fields_lks (P := P) (lay := lkT P d) (tr := DataW.trod enc P w 0 (fun _ => true) hd fuel)
              (fun t cs ks x h1 h2 => trod_lks fuel d t cs ks x h1 h2) fs.toList 0 cs _ xs hl hm (by omega)
            rwa [List.drop_zero, List.take_of_length_le (by omega)] at g1
          · cases hx
        · cases h
      · cases h
    · rename_i n e hu
      split at h
      · rename_i l hl
        split at h
        · rename_i hq
          cases h
          obtain ⟨q1, q2⟩ := hq
          simp only [DataW.trod, hu] at hx
          split at hx
          · rename_i hcl
            obtain ⟨xs, hm, rfl⟩ := Option.map_eq_some_iff.1 hx
            rw [← q1, List.range_eq_range'] at hm
            have g1 := array_lks (l := l) (g := DataW.trod enc P w 0 (fun _ => true) hd fuel e) (fun cs x h1 => trod_lks fuel d e cs l x hl h1) n 0 cs xs hm (by rw [Nat.zero_add]; omega)
            rwa [Nat.zero_mul, List.drop_zero, List.take_of_length_le (by omega)] at g1
          · cases hx
        · cases h
      · cases h
    · cases h
end
end Go.Sx

/- The engine, part Zc: arguments of plain data (with slices of plain data) in the engine's form; what they read as behind a call that keeps memory. -/
namespace Go.Sx
open Go Go.WideShapes Go.ChangeShapes
set_option linter.unusedSimpArgs false
set_option linter.unusedVariables false

/- the symbolic form -/
def TagSV : Tag → SV → Prop
  | .i k, v => ∃ n, v = .int k n ∧ (Lit.int k n).wf = true
  | .b, v => ∃ b, v = .bool b
  | .s, v => ∃ s : List UInt8, v = .str s ∧ s.length ≤ maxLen
def TagsSV : List Tag → List SV → Prop
  | [], vs => vs = []
  | t :: ts, vs => ∃ v r, vs = v :: r ∧ TagSV t v ∧ TagsSV ts r
def RowsSV (ks : List Tag) : Nat → List SV → Prop
  | 0, cs => cs = []
  | n + 1, cs => ∃ r cs', cs = r ++ cs' ∧ TagsSV ks r ∧ RowsSV ks n cs'
def Opn : List LK → Nat → List SV → Mem → Nat → Prop
  | [], n, vs, m, n' => vs = [] ∧ m = [] ∧ n' = n
  | .t t :: ks, n, vs, m, n' => ∃ v r, vs = v :: r ∧ TagSV t v ∧ Opn ks n r m n'
  | .sl tags :: ks, n, vs, m, n' => ∃ len cells r m', vs = .slc n 0 tags.length len none :: r ∧ m = (n, ⟨.view, cells⟩) :: m' ∧ len ≤ maxLen ∧ RowsSV tags len cells ∧ Opn ks (n + 1) r m' n'
def Opns : List (Bool × List LK) → Nat → List SV → Mem → Nat → Prop
  | [], n, vs, m, n' => vs = [] ∧ m = [] ∧ n' = n
  | (true, ks) :: r, n, vs, m, n' => ∃ l vs' m1 m2 n1, vs = .agg l :: vs' ∧ m = m1 ++ m2 ∧ Opn ks n l m1 n1 ∧ Opns r n1 vs' m2 n'
  | (false, ks) :: r, n, vs, m, n' => ∃ v vs' m1 m2 n1, vs = v :: vs' ∧ m = m1 ++ m2 ∧ Opn ks n [v] m1 n1 ∧ Opns r n1 vs' m2 n'

def argLay (P : Program) (d : Nat) : List TypeId → Option (List (Bool × List LK))
  | [] => some []
  | t :: ts => match lkT P d t, argLay P d ts with
    | some l, some r => some (((match P.underlying t with | some (.struct _) | some (.array _ _) => true | _ => false), l) :: r)
    | _, _ => none

def ViewsOk (w : World) (ρ : Env) (n n' : Nat) (m : Mem) : Prop := ∀ i B, (i, B) ∈ m → B.kind = .view ∧ n ≤ i ∧ i < n' ∧ ∃ L, ρ i = some L ∧ B.okAt ρ w L

theorem TagOk.sv {t : Tag} {v : Value} (h : TagOk t v) : ∃ s, TagSV t s ∧ v.oneCell' = true ∧ ∀ ρ, s.is ρ v := by
  cases t with
  | i k => obtain ⟨n, rfl, hw⟩ := h; exact ⟨.int k n, ⟨n, rfl, hw⟩, rfl, fun ρ => by simp [SV.is]⟩
  | b => obtain ⟨b, rfl⟩ := h; exact ⟨.bool b, ⟨b, rfl⟩, rfl, fun ρ => by simp [SV.is]⟩
  | s => obtain ⟨s, rfl, hl⟩ := h; exact ⟨.str s, ⟨s, rfl, hl⟩, rfl, fun ρ => by simp [SV.is]⟩

theorem tags_sv {cell : Nat → Option Value} : ∀ (ks : List Tag) (o : Nat), (∀ (j : Nat) k, ks[j]? = some k → ∃ x, cell (o + j) = some x ∧ TagOk k x) →
    ∃ vs, TagsSV ks vs ∧ vs.length = ks.length ∧ ∀ (j : Nat) v, vs[j]? = some v → ∃ x, cell (o + j) = some x ∧ x.oneCell' = true ∧ ∀ ρ, v.is ρ x
  | [], o, _ => ⟨[], rfl, rfl, fun j v hj => by simp at hj⟩
  | k :: ks, o, h => by
    obtain ⟨x, hx, ht⟩ := h 0 k rfl
    obtain ⟨s, h1, h2, h3⟩ := ht.sv
    obtain ⟨vs, g1, g2, g3⟩ := tags_sv (cell := cell) ks (o + 1) (fun j k hk => by
      have := h (j + 1) k (by simpa using hk)
      rwa [show o + (j + 1) = o + 1 + j by omega] at this)
    refine ⟨s :: vs, ⟨s, vs, rfl, h1, g1⟩, by simp [g2], fun j v hj => ?_⟩
    cases j with
    | zero => simp at hj; subst hj; exact ⟨x, by simpa using hx, h2, h3⟩
    | succ j =>
      have := g3 j v (by simpa using hj)
      rwa [show o + 1 + j = o + (j + 1) by omega] at this

theorem rows_sv {cell : Nat → Option Value} (ks : List Tag) : ∀ (len o : Nat), (∀ i, i < len → ∀ (j : Nat) k, ks[j]? = some k → ∃ x, cell (o + (i * ks.length + j)) = some x ∧ TagOk k x) →
    ∃ vs, RowsSV ks len vs ∧ vs.length = len * ks.length ∧ ∀ (j : Nat) v, vs[j]? = some v → ∃ x, cell (o + j) = some x ∧ x.oneCell' = true ∧ ∀ ρ, v.is ρ x
  | 0, o, _ => ⟨[], rfl, by simp, fun j v hj => by simp at hj⟩
  | len + 1, o, h => by
    obtain ⟨r, h1, h2, h3⟩ := tags_sv (cell := cell) ks o (fun j k hk => by simpa using h 0 (by omega) j k hk)
    obtain ⟨vs, g1, g2, g3⟩ := rows_sv (cell := cell) ks len (o + ks.length) (fun i hi j k hk => by
      have := h (i + 1) (by omega) j k hk
      rwa [show o + ((i + 1) * ks.length + j) = o + ks.length + (i * ks.length + j) by rw [Nat.add_mul]; omega] at this)
    refine ⟨r ++ vs, ⟨r, vs, rfl, h1, g1⟩, by simp [h2, g2, Nat.add_mul, Nat.add_comm], fun j v hj => ?_⟩
    by_cases hjr : j < r.length
    · rw [List.getElem?_append_left hjr] at hj; exact h3 j v hj
    · rw [List.getElem?_append_right (by omega)] at hj
      have := g3 _ v hj
      rwa [show o + ks.length + (j - r.length) = o + j by omega] at this

theorem opn_of {w : World} (h0 : 0 < w.heap.size) : ∀ {lks : List LK} {cs : List Value} (ρ : Env) (n : Nat), Lks w lks cs → (∀ i, n ≤ i → ρ i = none) →
    ∃ ρ' svs m n', ρ.le ρ' ∧ n ≤ n' ∧ (∀ i, n' ≤ i → ρ' i = none) ∧ Opn lks n svs m n' ∧ SV.isL ρ' svs cs ∧ (∀ y ∈ cs, y.oneCell' = true) ∧ ViewsOk w ρ' n n' m
  | _, _, ρ, n, .nil, hf => ⟨ρ, [], [], n, Env.le_refl _, Nat.le_refl _, hf, ⟨rfl, rfl, rfl⟩, by simp [SV.isL], by simp, fun i B h => by simp at h⟩
  | .t t :: ks, v :: vs, ρ, n, .cons h1 h2, hf => by
    obtain ⟨s, g1, g2, g3⟩ := TagOk.sv h1
    obtain ⟨ρ', svs, m, n', q1, q2, q3, q4, q5, q6, q7⟩ := opn_of h0 ρ n h2 hf
    refine ⟨ρ', s :: svs, m, n', q1, q2, q3, ⟨s, svs, rfl, g1, q4⟩, ?_, ?_, q7⟩
    · simp only [SV.isL]; exact ⟨v, vs, rfl, g3 _, q5⟩
    · intro y hy
      rcases List.mem_cons.1 hy with rfl | hy
      · exact g2
      · exact q6 y hy
  | .sl tg :: ks, v :: vs, ρ, n, .cons h1 h2, hf => by
    obtain ⟨A, len, cap, rfl, hlc, hcm, hpos, hnil, hblk, hcell⟩ := h1
    -- where it lies
    have key : ∃ (L : Loc) (cells : List SV), RowsSV tg len cells ∧ (∀ ρ, Blk.okAt ρ w ⟨.view, cells⟩ L) ∧ ∀ ρ : Env, ρ n = some L → (SV.slc n 0 tg.length len none).is ρ (.slice A len cap) := by
      by_cases hc : 0 < cap
      · cases A with
        | none => exact absurd (hnil rfl) (by omega)
        | some a =>
          obtain ⟨hs, hb⟩ := hblk a rfl hc
          obtain ⟨cells, r1, r2, r3⟩ := rows_sv (cell := fun o => w.cell? ⟨a.block, o, none⟩) tg len a.off (fun i hi j k hk => hcell a rfl i hi j k hk)
          refine ⟨⟨some a.block, a.off, cap * tg.length⟩, cells, r1, fun ρ => ?_, fun ρ hρ => ?_⟩
          · unfold Blk.okAt
            exact ⟨hb, fun j v hj => let ⟨x, e1, e2, e3⟩ := r3 j v hj; ⟨x, e1, e3 ρ, e2⟩, by rw [r2]; exact Nat.mul_le_mul_right _ hlc⟩
          · simp only [SV.is]
            refine ⟨_, some a, hρ, ?_, .inl ?_⟩
            · simp [Nat.mul_div_cancel _ hpos]
            · obtain ⟨b, o, s⟩ := a
              simp only at hs; subst hs; simp
      · obtain rfl : cap = 0 := by omega
        obtain rfl : len = 0 := by omega
        cases A with
        | none =>
          refine ⟨⟨none, 0, 0⟩, [], rfl, fun ρ => ?_, fun ρ hρ => ?_⟩
          · unfold Blk.okAt; exact ⟨rfl, rfl⟩
          · simp only [SV.is]; exact ⟨_, none, hρ, by simp, .inl rfl⟩
        | some a =>
          refine ⟨⟨some 0, 0, 0⟩, [], rfl, fun ρ => ?_, fun ρ hρ => ?_⟩
          · unfold Blk.okAt; exact ⟨h0, fun j v hj => by simp at hj, by simp⟩
          · simp only [SV.is]; exact ⟨_, some a, hρ, by simp, .inr (by simp)⟩
    obtain ⟨L, cells, r1, r2, r3⟩ := key
    have hn : ρ n = none := hf n (Nat.le_refl _)
    have hle : ρ.le (ρ.set n L) := Env.le_set hn
    obtain ⟨ρ', svs, m, n', q1, q2, q3, q4, q5, q6, q7⟩ := opn_of h0 (ρ.set n L) (n + 1) h2 (fun i hi => by unfold Env.set; rw [if_neg (by omega)]; exact hf i (by omega))
    have hL : ρ' n = some L := q1 n L (by unfold Env.set; rw [if_pos rfl])
    refine ⟨ρ', _, _, n', Env.le_trans hle q1, by omega, q3, ⟨len, cells, svs, m, rfl, rfl, by omega, r1, q4⟩, ?_, ?_, ?_⟩
    · simp only [SV.isL]; exact ⟨_, _, rfl, r3 ρ' hL, q5⟩
    · intro y hy
      rcases List.mem_cons.1 hy with rfl | hy
      · rfl
      · exact q6 y hy
    · intro i B hi
      rcases List.mem_cons.1 hi with hi | hi
      · cases hi; exact ⟨rfl, Nat.le_refl _, by omega, L, hL, r2 ρ'⟩
      · obtain ⟨e1, e2, e3, e4⟩ := q7 i B hi
        exact ⟨e1, by omega, e3, e4⟩

theorem Opn.mono {w : World} {ρ ρ' : Env} {n n' n2 : Nat} {m : Mem} (h : ViewsOk w ρ n n' m) (hle : ρ.le ρ') (hn : n' ≤ n2) : ViewsOk w ρ' n n2 m := fun i B hi => by
  obtain ⟨e1, e2, e3, L, e4, e5⟩ := h i B hi
  exact ⟨e1, e2, by omega, L, hle _ _ e4, e5.mono hle (fun _ _ => rfl) (Nat.le_refl _)⟩

section
variable {H : Type} {enc : TypeId × Value → H} {P : Program} {w : World}

theorem Lks.len {w : World} : ∀ {l : List LK} {cs : List Value}, Lks w l cs → cs.length = l.length
  | _, _, .nil => rfl
  | _, _, .cons _ h => by simp [Lks.len h]

theorem arg_lks {d : Nat} {t : TypeId} {l : List LK} {v : Value} {x : DataW H} {ps : List MemPlace} {b : Nat} (hl : lkT P d t = some l) (hv : Value.okWide P w .any b t v)
    (h : DataW.Trod enc P w 0 (fun _ => true) true t v x ps) :
    (match P.underlying t with | some (.struct _) | some (.array _ _) => ∃ cs, v = .agg cs.toArray ∧ Lks w l cs | _ => Lks w l [v]) := by
  obtain ⟨fuel, h⟩ := h
  have key := trod_lks fuel d t _ l _ hl h
  have hv' := hv
  unfold Value.okWide at hv'
  cases d with
  | zero => simp [lkT] at hl
  | succ d =>
    simp only [lkT] at hl
    split at hl
    · rename_i hu; simp only [hu]; obtain ⟨b, rfl⟩ := okWide_bool hu hv; exact key
    · rename_i hu; simp only [hu]; obtain ⟨b, rfl⟩ := okWide_int hu hv; exact key
    · rename_i hu; simp only [hu]; obtain ⟨b, rfl⟩ := okWide_string hu hv; exact key
    · rename_i hu; simp only [hu]; obtain ⟨a, len, cap, rfl⟩ := okWide_slice hu hv; exact key
    · rename_i hu; simp only [hu] at hv' ⊢; obtain ⟨cs, rfl, _⟩ := hv'; exact ⟨cs.toList, by simp, key⟩
    · rename_i hu; simp only [hu] at hv' ⊢; obtain ⟨cs, rfl, _⟩ := hv'; exact ⟨cs.toList, by simp, key⟩
    · cases hl

theorem opns_of (h0 : 0 < w.heap.size) {d b : Nat} : ∀ {ts : List TypeId} {sh : List (Bool × List LK)} {vs : List Value} {ds : List (DataW H)} {ps : List MemPlace} (ρ : Env) (n : Nat), argLay P d ts = some sh →
    (∀ (j : Nat) t v, ts[j]? = some t → vs[j]? = some v → Value.okWide P w .any b t v) → DataW.TrodAll enc P w 0 (fun _ => true) true ts vs ds ps → (∀ i, n ≤ i → ρ i = none) →
    ∃ ρ' svs m n', ρ.le ρ' ∧ n ≤ n' ∧ (∀ i, n' ≤ i → ρ' i = none) ∧ Opns sh n svs m n' ∧ SV.isL ρ' svs vs ∧ ViewsOk w ρ' n n' m
  | [], sh, vs, ds, ps, ρ, n, hs, hv, h, hf => by
    obtain ⟨rfl, rfl, rfl⟩ := trodAll_nil h
    simp only [argLay, Option.some.injEq] at hs; subst hs
    exact ⟨ρ, [], [], n, Env.le_refl _, Nat.le_refl _, hf, ⟨rfl, rfl, rfl⟩, by simp [SV.isL], fun i B h => by simp at h⟩
  | t :: ts, sh, vs, ds, ps, ρ, n, hs, hv, h, hf => by
    obtain ⟨v, vs', d', ds', p, q, rfl, rfl, rfl, h1, h2⟩ := trodAll_cons h
    simp only [argLay] at hs
    split at hs
    rotate_left
    · cases hs
    rename_i l r hl hr
    cases hs
    have ha := arg_lks hl (hv 0 t v rfl rfl) h1
    have hrest := fun ρ n (hf : ∀ i, n ≤ i → ρ i = none) => opns_of h0 ρ n hr (fun j t v ht hvv => hv (j + 1) t v (by simpa using ht) (by simpa using hvv)) h2 hf
    by_cases hag : (match P.underlying t with | some (.struct _) | some (.array _ _) => true | _ => false) = true
    · have ha' : ∃ cs, v = .agg cs.toArray ∧ Lks w l cs := by
        split at ha
        · exact ha
        · exact ha
        · rename_i x1 x2
          split at hag
          · exact absurd (by assumption) (x1 _)
          · exact absurd (by assumption) (x2 _ _)
          · cases hag
      obtain ⟨cs, rfl, hk⟩ := ha'
      obtain ⟨ρ1, svs, m1, n1, q1, q2, q3, q4, q5, q6, q7⟩ := opn_of h0 ρ n hk hf
      obtain ⟨ρ2, svs', m2, n2, r1, r2, r3, r4, r5, r6⟩ := hrest ρ1 n1 q3
      refine ⟨ρ2, .agg svs :: svs', m1 ++ m2, n2, Env.le_trans q1 r1, by omega, r3, ?_, ?_, ?_⟩
      · rw [hag]; exact ⟨svs, svs', m1, m2, n1, rfl, rfl, q4, r4⟩
      · simp only [SV.isL, SV.is]; exact ⟨_, _, rfl, ⟨cs, SV.isL_mono r1 _ _ q5, q6, rfl⟩, r5⟩
      · intro i B hi
        rcases List.mem_append.1 hi with hi | hi
        · exact Opn.mono q7 r1 r2 i B hi
        · obtain ⟨e1, e2, e3⟩ := r6 i B hi; exact ⟨e1, by omega, e3⟩
    · have hag' : (match P.underlying t with | some (.struct _) | some (.array _ _) => true | _ => false) = false := by simpa using hag
      have ha' : Lks w l [v] := by
        split at ha
        · rename_i hu; simp [hu] at hag
        · rename_i hu; simp [hu] at hag
        · exact ha
      obtain ⟨ρ1, svs, m1, n1, q1, q2, q3, q4, q5, q6, q7⟩ := opn_of h0 ρ n ha' hf
      obtain ⟨ρ2, svs', m2, n2, r1, r2, r3, r4, r5, r6⟩ := hrest ρ1 n1 q3
      have hlen := SV.isL_length q5
      obtain ⟨s, rfl⟩ : ∃ s, svs = [s] := by
        match svs, hlen with
        | [s], _ => exact ⟨s, rfl⟩
      refine ⟨ρ2, s :: svs', m1 ++ m2, n2, Env.le_trans q1 r1, by omega, r3, ?_, ?_, ?_⟩
      · rw [hag']; exact ⟨s, svs', m1, m2, n1, rfl, rfl, q4, r4⟩
      · simp only [SV.isL] at q5 ⊢
        obtain ⟨y, ys, e, e1, _⟩ := q5
        cases e
        exact ⟨_, _, rfl, SV.is_mono r1 _ _ e1, r5⟩
      · intro i B hi
        rcases List.mem_append.1 hi with hi | hi
        · exact Opn.mono q7 r1 r2 i B hi
        · obtain ⟨e1, e2, e3⟩ := r6 i B hi; exact ⟨e1, by omega, e3⟩
end

/- what is read behind the call -/
section
variable {H : Type} {enc : TypeId × Value → H} {P : Program} {w w' : World} {sp : Nat → Bool} {hd : Bool}

theorem mapM_carry {α β : Type} {f g : α → Option β} : ∀ {l : List α} {r : List β}, l.mapM f = some r → (∀ x ∈ l, ∀ y, f x = some y → g x = some y) → l.mapM g = some r
  | [], r, h, _ => by simpa using h
  | a :: l, r, h, hg => by
    obtain ⟨y, ys, h1, h2, rfl⟩ := mapM_some_cons h
    rw [List.mapM_cons, hg a List.mem_cons_self y h1, mapM_carry h2 fun x hx => hg x (List.mem_cons_of_mem _ hx)]; rfl

theorem trod_kept (hh : ∀ b, b < w.heap.size → w'.heap[b]? = w.heap[b]?) (hsp : ∀ b, b < w.heap.size → sp b = true) :
    ∀ (fuel d : Nat) (t : TypeId) (cs : List Value) (l : List LK) (x : DataW H × List MemPlace), lkT P d t = some l →
      DataW.trod enc P w 0 (fun _ => true) hd fuel t cs = some x → DataW.trod enc P w' 0 sp hd fuel t cs = some x
  | 0, d, t, cs, l, x, _, hx => by simp [DataW.trod] at hx
  | fuel + 1, 0, t, cs, l, x, h, _ => by simp [lkT] at h
  | fuel + 1, d + 1, t, cs, l, x, h, hx => by
    have hxx := hx
    simp only [lkT] at h
    have hcell : ∀ a y, w.cell? a = some y → w'.cell? a = some y := fun a y hy => by
      have hb := cell?_lt_any hy
      unfold World.cell? at hy ⊢; rw [hh _ hb]; exact hy
    split at h
    · rename_i hu; obtain ⟨n, rfl, rfl⟩ := DataW.trod_bool hu hx; simp [DataW.trod, hu]
    · rename_i k hu; obtain ⟨n, rfl, rfl, hw⟩ := DataW.trod_int hu hx; simp [DataW.trod, hu, hw]
    · rename_i hu; obtain ⟨n, rfl, rfl, hw⟩ := DataW.trod_string hu hx; simp [DataW.trod, hu, hw]
    · rename_i e hu
      split at h
      · rename_i l' hl
        split at h
        · rename_i tg htg
          split at h
          · rename_i hq
            obtain ⟨q1, q2⟩ := hq
            rcases DataW.trod_slice hu hx with ⟨rfl, rfl⟩ | ⟨a, len, cap, elems, rest, n, hf, rfl, rfl, hb, hlc, hcm, hel, he, hr, _⟩
            · simp [DataW.trod, hu]
            · have helem : ∀ (o : Nat) (y : DataW H × List MemPlace), (w.cells? 0 (a.add o) (P.cellsOf e)).bind (DataW.trod enc P w 0 (fun _ => true) hd fuel e) = some y →
                  a.block < w.heap.size ∧ (w'.cells? 0 (a.add o) (P.cellsOf e)).bind (DataW.trod enc P w' 0 sp hd fuel e) = some y := by
                intro o y hy
                obtain ⟨cs', hcs, htr⟩ := Option.bind_eq_some_iff.1 hy
                have hblk : a.block < w.heap.size := by
                  obtain ⟨g1, g2⟩ := cells_get hcs
                  have g3 := g2 0 (by omega)
                  rw [List.getElem?_eq_getElem (by omega)] at g3
                  have := cell?_lt_any g3
                  have e1 : ((a.add o).add 0).block = a.block := by unfold Addr.add; by_cases ho : o = 0 <;> simp [ho]
                  rwa [e1] at this
                refine ⟨hblk, ?_⟩
                have hcs' : w'.cells? 0 (a.add o) (P.cellsOf e) = some cs' := by
                  unfold World.cells? at hcs ⊢
                  split at hcs
                  · rename_i hb; rw [if_pos hb]; exact mapM_carry hcs fun i _ y hy => hcell _ y hy
                  · cases hcs
                rw [hcs']
                exact trod_kept hh hsp fuel d e cs' l' y hl htr
              simp only [DataW.trod, hu] at hx ⊢
              split at hx
              · rename_i hc
                rw [if_pos hc]
                obtain ⟨els, m1, m2⟩ := Option.bind_eq_some_iff.1 hx
                obtain ⟨rs, m3, m4⟩ := Option.map_eq_some_iff.1 m2
                rw [if_pos trivial] at m3
                rw [mapM_carry m1 fun i _ y hy => (helem _ y hy).2]
                simp only [Option.bind_some]
                have hr' : (if sp a.block = true then (List.range (cap - len)).mapM fun j => (w'.cells? 0 (a.add ((len + j) * P.cellsOf e)) (P.cellsOf e)).bind (DataW.trod enc P w' 0 sp hd fuel e) else some []) = some rs := by
                  by_cases h0 : cap - len = 0
                  · rw [h0] at m3 ⊢
                    simp at m3; subst m3
                    split <;> simp
                  · have hb : a.block < w.heap.size := by
                      have hrg : List.range (cap - len) = 0 :: (List.range (cap - len - 1)).map (· + 1) := by
                        rw [show cap - len = (cap - len - 1) + 1 by omega, List.range_succ_eq_map]; simp
                      rw [hrg] at m3
                      obtain ⟨y, ys, k1, _, _⟩ := mapM_some_cons m3
                      exact (helem _ y k1).1
                    rw [if_pos (hsp _ hb)]
                    exact mapM_carry m3 fun i _ y hy => (helem _ y hy).2
                rw [hr', ← m4]; rfl
              · cases hx
          · cases h
        · cases h
      · cases h
    · rename_i fs hu
      split at h
      · rename_i l' hl
        simp only [DataW.trod, hu] at hx ⊢
        split at hx
        · rename_i hc
          rw [if_pos hc]
          obtain ⟨xs, m1, m2⟩ := Option.map_eq_some_iff.1 hx
          have hfs : ∀ (fs : List Field) (o : Nat) (l : List LK), lkFs (lkT P d) P fs o = some l → ∀ f ∈ fs, ∃ lf, lkT P d f.type = some lf := by
            intro fs
            induction fs with
            | nil => intro o l _ f hf; simp at hf
            | cons f r ih =>
              intro o l hl g hg
              simp only [lkFs] at hl
              split at hl
              · rename_i a b ha hb
                rcases List.mem_cons.1 hg with rfl | hg
                · exact ⟨_, ha⟩
                · exact ih _ _ hb g hg
              · cases hl
          rw [mapM_carry m1 fun f hf y hy => by
            obtain ⟨lf, hlf⟩ := hfs _ _ _ hl f hf
            exact trod_kept hh hsp fuel d f.type _ lf y hlf hy]
          rw [← m2]; rfl
        · cases hx
      · cases h
    · rename_i n e hu
      split at h
      · rename_i l' hl
        simp only [DataW.trod, hu] at hx ⊢
        split at hx
        · rename_i hc
          rw [if_pos hc]
          obtain ⟨xs, m1, m2⟩ := Option.map_eq_some_iff.1 hx
          rw [mapM_carry m1 fun i _ y hy => trod_kept hh hsp fuel d e _ l' y hl hy]
          rw [← m2]; rfl
        · cases hx
      · cases h
    · cases h

theorem trodAll_kept (hh : ∀ b, b < w.heap.size → w'.heap[b]? = w.heap[b]?) (hsp : ∀ b, b < w.heap.size → sp b = true) {d : Nat} :
    ∀ {ts : List TypeId} {sh : List (Bool × List LK)} {vs : List Value} {ds : List (DataW H)} {ps : List MemPlace}, argLay P d ts = some sh →
      DataW.TrodAll enc P w 0 (fun _ => true) hd ts vs ds ps → DataW.TrodAll enc P w' 0 sp hd ts vs ds ps
  | [], sh, vs, ds, ps, _, h => by
    obtain ⟨rfl, rfl, rfl⟩ := trodAll_nil h; rfl
  | t :: ts, sh, vs, ds, ps, hs, h => by
    obtain ⟨v, vs', d', ds', p, q, rfl, rfl, rfl, ⟨fuel, h1⟩, h2⟩ := trodAll_cons h
    simp only [argLay] at hs
    split at hs
    rotate_left
    · cases hs
    rename_i l r hl hr
    exact ⟨p, q, ⟨fuel, trod_kept hh hsp fuel d t _ l _ hl h1⟩, trodAll_kept hh hsp hr h2, rfl⟩
end

theorem trodAll_len {H : Type} {enc : TypeId × Value → H} {P : Program} {w : World} {b : Nat} {sp : Nat → Bool} {hd : Bool} : ∀ {ts : List TypeId} {vs : List Value} {ds : List (DataW H)} {ps : List MemPlace},
    DataW.TrodAll enc P w b sp hd ts vs ds ps → ds.length = ts.length
  | [], vs, ds, ps, h => by obtain ⟨rfl, rfl, rfl⟩ := trodAll_nil h; rfl
  | t :: ts, vs, ds, ps, h => by
    obtain ⟨v, vs', d', ds', p, q, rfl, rfl, rfl, _, h2⟩ := trodAll_cons h
    simp [trodAll_len h2]

/-- THE BRIDGE: a law whose contract the engine knows, in the model's calculus, with all that its row asks. -/
theorem law_of_fun {H : Type} {enc : TypeId × Value → H} {P : Program} {T : List (Nat × List SV)} {f : FuncId} {fn : Func} {s : ChangeSpec} {apart fresh handsOn : Bool} {W : World} {base : Nat} {args : Array Value} {ds gs : List (DataW H)} {before : List MemPlace}
    {d : Nat} {sh : List (Bool × List LK)} {tb : TypeId}
    (hsh : argLay P d fn.params.toList = some sh) (hvs : s.vars = []) (hres : fn.resultTypes = #[tb]) (htb : P.underlying tb = some .bool)
    (hspec : ∀ ds : List (DataW H), ds.length = fn.params.toList.length → (s.fn H ds).results = [.lit (.bool true)] ∧ (s.fn H ds).args = ds ∧ (s.fn H ds).vars = [])
    (F : ∀ svs m n, Opns sh 0 svs m n → Fun P T f svs m n (.bool true) [] n)
    (hT : TabOk T W) (h0 : 0 < W.heap.size)
    (hval : ∀ (j : Nat) t v, fn.params[j]? = some t → args[j]? = some v → Value.okWide P W .any base t v)
    (hW : DataW.Whole enc P fn.params.toList s.vars apart W args.toList ds gs before) :
    Calls P f args W fun e W' => ∃ v, e = .returned v ∧ s.post enc P fn apart fresh handsOn false W args v W' := by
  have hW' := hW
  obtain ⟨p, q, hA, hV, rfl, hfz, hnd⟩ := hW
  rw [hvs] at hV
  have hgs : gs = [] ∧ q = [] := by
    cases gs with
    | nil => exact ⟨rfl, hV⟩
    | cons g gs => simp [DataW.TrodVars] at hV
  obtain ⟨rfl, rfl⟩ := hgs
  obtain ⟨ρ, svs, m, n, _, _, hfr, hop, hvl, hvw⟩ := opns_of (enc := enc) h0 (d := d) (b := base) noEnv 0 hsh (fun j t v ht hv => hval j t v (by simpa using ht) (by simpa using hv)) hA (fun i _ => rfl)
  have hnv : ∀ i B, (i, B) ∈ m → ¬ B.own := fun i B hi he => he (hvw i B hi).1
  have R : MemOk (ctxOf P T ρ m n W) ρ m n W := by
    refine ⟨fun i B hi => (hvw i B hi).2.2.2, fun i B j B' L L' b hi _ _ ho => absurd ho (hnv i B hi), hfr, fun i B L b hi ho => absurd ho (hnv i B hi), Nat.le_refl _, fun _ _ _ => rfl, fun _ _ => rfl, rfl, rfl⟩
  have X : CtxOk (ctxOf P T ρ m n W) := ⟨hT, fun g cs _ ho => by obtain ⟨i, B, L, h, ho, _⟩ := ho; exact hnv i B h ho⟩
  have := (F svs m n hop).run ρ W args.toList R X hvl
  rw [Array.toArray_toList] at this
  refine this.mono ?_
  rintro e W' ⟨x, ρ', rfl, _, h2, h3⟩
  have hx : x = .bool true := by simpa only [SV.is] using h2
  subst hx
  have hh : ∀ b, b < W.heap.size → W'.heap[b]? = W.heap[b]? := fun b hb => h3.frame b hb (fun ho => by obtain ⟨i, B, L, h, ho, _⟩ := ho; exact hnv i B h ho)
  have hlen : ds.length = fn.params.toList.length := trodAll_len hA
  have hsp := hspec (ds ++ []) (by simpa using hlen)
  refine ⟨_, rfl, ds, [], p ++ [], [], p, [], hW', ?_, ?_, ?_, ?_, fun h => by cases h⟩
  · rw [hsp.1, hres]
    exact ⟨[], [], ⟨1, by simp [DataW.trod, htb, Value.cells]⟩, rfl, rfl⟩
  · rw [hsp.2.1, List.append_nil]
    exact trodAll_kept hh (fun b hb => by simpa using hb) hsh hA
  · rw [hsp.2.2, hvs]; rfl
  · exact World.keptBut_mono (fun p hp => hp.elim) (keptBut_of_heap h3.side hh)
end Go.Sx

/- The engine, part Ze: rows of plain cells, one by one; entering a loop. -/
namespace Go.Sx
open Go
set_option linter.unusedSimpArgs false
set_option linter.unusedVariables false

theorem TagSV.flat {t : Tag} {v : SV} (h : TagSV t v) : v.flat = true := by
  cases t with
  | i k => obtain ⟨_, rfl, _⟩ := h; rfl
  | b => obtain ⟨_, rfl⟩ := h; rfl
  | s => obtain ⟨_, rfl, _⟩ := h; rfl
theorem TagsSV.flat : ∀ {ks : List Tag} {vs : List SV}, TagsSV ks vs → SV.flatL vs = true
  | [], vs, h => by simp only [TagsSV] at h; subst h; rfl
  | t :: ts, vs, h => by
    obtain ⟨v, r, rfl, h1, h2⟩ := h
    simp only [SV.flatL, h1.flat, TagsSV.flat h2, Bool.and_self]
theorem TagsSV.len : ∀ {ks : List Tag} {vs : List SV}, TagsSV ks vs → vs.length = ks.length
  | [], vs, h => by simp only [TagsSV] at h; subst h; rfl
  | t :: ts, vs, h => by
    obtain ⟨v, r, rfl, h1, h2⟩ := h
    simp [TagsSV.len h2]
theorem SV.flatL_append : ∀ {a b : List SV}, SV.flatL a = true → SV.flatL b = true → SV.flatL (a ++ b) = true
  | [], b, _, h => h
  | x :: a, b, h, h' => by
    simp only [SV.flatL, Bool.and_eq_true] at h
    simp only [List.cons_append, SV.flatL, h.1, SV.flatL_append h.2 h', Bool.and_self]
theorem RowsSV.flat {ks : List Tag} : ∀ {n : Nat} {vs : List SV}, RowsSV ks n vs → SV.flatL vs = true
  | 0, vs, h => by simp only [RowsSV] at h; subst h; rfl
  | n + 1, vs, h => by
    obtain ⟨r, cs, rfl, h1, h2⟩ := h
    exact SV.flatL_append h1.flat (RowsSV.flat h2)
theorem RowsSV.len {ks : List Tag} : ∀ {n : Nat} {vs : List SV}, RowsSV ks n vs → vs.length = n * ks.length
  | 0, vs, h => by simp only [RowsSV] at h; subst h; simp
  | n + 1, vs, h => by
    obtain ⟨r, cs, rfl, h1, h2⟩ := h
    simp [h1.len, RowsSV.len h2, Nat.add_mul, Nat.add_comm]
theorem RowsSV.ren {ks : List Tag} {n : Nat} {vs : List SV} (h : RowsSV ks n vs) (η : Nat → Nat × Nat) : SV.renL η vs = vs := SV.flatL_ren η vs h.flat
/-- a row by its index -/
theorem RowsSV.row {ks : List Tag} : ∀ {n : Nat} {vs : List SV} {i : Nat}, RowsSV ks n vs → i < n → ∃ r, TagsSV ks r ∧ (vs.drop (i * ks.length)).take ks.length = r
  | 0, vs, i, h, hi => by omega
  | n + 1, vs, i, h, hi => by
    obtain ⟨r, cs, rfl, h1, h2⟩ := h
    cases i with
    | zero => exact ⟨r, h1, by rw [Nat.zero_mul, List.drop_zero, ← h1.len, List.take_left']; rfl⟩
    | succ i =>
      obtain ⟨r', g1, g2⟩ := RowsSV.row h2 (i := i) (by omega)
      refine ⟨r', g1, ?_⟩
      rw [← g2, Nat.add_mul, Nat.one_mul, Nat.add_comm, ← List.drop_drop, ← h1.len, List.drop_left']; rfl
/-- cells out of a row -/
theorem take_take_of {vs r : List SV} {o s : Nat} (h : (vs.drop o).take s = r) {k : Nat} (hk : k ≤ s) : (vs.drop o).take k = r.take k := by
  rw [← h, List.take_take, Nat.min_eq_left hk]
theorem get_of_row {vs r : List SV} {o s : Nat} (h : (vs.drop o).take s = r) {k : Nat} (hk : k < s) : vs[o + k]? = r[k]? := by
  rw [← h, List.getElem?_take_of_lt hk, List.getElem?_drop]
end Go.Sx

/- The law CustodianStatements: it computes true. -/
namespace Go.Proofs.YtkfbkooobfepeaaDoor
open Go Go.Sx Sf
set_option maxRecDepth 100000
set_option linter.unusedSimpArgs false
set_option linter.unusedVariables false

theorem enc_sameL : ∀ {l : List Int}, (∀ x ∈ l, R64 x) → encL l = encLR l
  | [], _ => rfl
  | x :: l, h => by
    simp only [encL, encLR]
    rw [enc_same (h x List.mem_cons_self), enc_sameL fun y hy => h y (List.mem_cons_of_mem _ hy)]
theorem stmt_same {d c : List UInt8} {e r v : Int} (he : R64 e) (hr : R64 r) (hv : R64 v) : stmt d e r v c = stmtR d e r v c := by
  unfold stmt stmtR encIs encIsR
  rw [enc_same (n := ([v, e, r] : List Int).length) (by unfold R64; simp), enc_sameL (by simp only [List.mem_cons, List.not_mem_nil, or_false]; rintro x (rfl | rfl | rfl) <;> assumption)]
theorem stmt_inj {d c d' c' : List UInt8} {e r v e' r' v' : Int} (hd : d.length = 16) (hd' : d'.length = 16)
    (he : R64 e) (hr : R64 r) (hv : R64 v) (he' : R64 e') (hr' : R64 r') (hv' : R64 v') (h : stmt d e r v c = stmt d' e' r' v' c') : d = d' ∧ c = c' ∧ e = e' ∧ r = r' ∧ v = v' := by
  unfold stmt encIs encL at h
  simp only [encL, List.append_nil, List.append_assoc] at h
  have h := List.append_cancel_left h
  have h := List.append_cancel_left (show encI 3 ++ _ = encI 3 ++ _ from h)
  obtain ⟨e1, h1⟩ := enc_inj hv hv' h
  obtain ⟨e2, h2⟩ := enc_inj he he' h1
  obtain ⟨e3, h3⟩ := enc_inj hr hr' h2
  obtain ⟨e4, e5⟩ := List.append_inj h3 (by rw [hd, hd'])
  exact ⟨e4, e5, e2, e3, e1⟩

/-- the equality of bytes, cell by cell -/
theorem eqPat_bys : ∀ (d d' : List UInt8) (ps : List Tag) (l l' : List SV) (b : Bool), d.length = d'.length → eqPat ps l l' = some b →
    eqPat (List.replicate d.length (.i .u8) ++ ps) (bys d ++ l) (bys d' ++ l') = some (d == d' && b)
  | [], [], ps, l, l', b, _, h => by simpa [bys] using h
  | x :: d, y :: d', ps, l, l', b, hl, h => by
    have ih := eqPat_bys d d' ps l l' b (by simpa using hl) h
    have e1 : eqTag (.i .u8) (SV.byte x) (SV.byte y) = some (x == y) := by
      simp only [eqTag, SV.byte, and_self, if_true]
      congr 1
      rw [Bool.eq_iff_iff]
      simp only [beq_iff_eq]
      constructor
      · intro h; exact UInt8.toNat_inj.1 (by omega)
      · rintro rfl; rfl
    simp only [List.length_cons, List.replicate_succ, List.cons_append, bys, List.map_cons, eqPat, e1]
    rw [show List.map SV.byte d = bys d from rfl, show List.map SV.byte d' = bys d' from rfl, ih]
    simp [Bool.and_assoc]
  | [], _ :: _, _, _, _, _, hl, _ => by simp at hl
  | _ :: _, [], _, _, _, _, hl, _ => by simp at hl

def tabF : List (FuncId × GS) := [(9, gSane), (24, gStmt), (25, gStmtR)]
theorem tabF_ok : ∀ x ∈ tabF, FunS Tryd.prog tH x.1 x.2 := by
  intro x hx
  simp only [tabF, List.mem_cons, List.not_mem_nil, or_false] at hx
  rcases hx with rfl | rfl | rfl
  · exact gSane_ok
  · exact gStmt_ok
  · exact gStmtR_ok
def parts (d c : List UInt8) (e r v : Int) : List SV := bys d ++ (bys c ++ [.int .i64 e, .int .i64 r, .int .i64 v])
theorem parts_flat (d c : List UInt8) (e r v : Int) : SV.flatL (parts d c e r v) = true := by
  unfold parts
  refine SV.flatL_append (flat_bytes _) (SV.flatL_append (flat_bytes _) rfl)
theorem parts_facts {d c : List UInt8} (e r v : Int) (hd : d.length = 16) (hc : c.length = 16) : (parts d c e r v).length = 35 ∧ List.take 16 (parts d c e r v) = bys d ∧
    List.take 16 (List.drop 16 (parts d c e r v)) = bys c ∧ (parts d c e r v)[32]? = some (.int .i64 e) ∧ (parts d c e r v)[33]? = some (.int .i64 r) ∧ (parts d c e r v)[34]? = some (.int .i64 v) ∧ List.take 35 (parts d c e r v) = parts d c e r v := by
  have h1 : (bys d).length = 16 := by rw [len_bytes, hd]
  have h2 : (bys c).length = 16 := by rw [len_bytes, hc]
  unfold parts
  refine ⟨by simp [h1, h2], List.take_left' h1, ?_, ?_, ?_, ?_, List.take_of_length_le (by simp [h1, h2])⟩
  · rw [List.drop_left' h1]; exact List.take_left' h2
  · rw [List.getElem?_append_right (by omega), List.getElem?_append_right (by omega), h1, h2]; rfl
  · rw [List.getElem?_append_right (by omega), List.getElem?_append_right (by omega), h1, h2]; rfl
  · rw [List.getElem?_append_right (by omega), List.getElem?_append_right (by omega), h1, h2]; rfl

set_option maxHeartbeats 4000000 in
theorem f5 (d c d' c' : List UInt8) (e r v e' r' v' : Int) (hd : d.length = 16) (hd' : d'.length = 16) (hc : c.length = 16) (hc' : c'.length = 16)
    (he : R64 e) (hr : R64 r) (hv : R64 v) (he' : R64 e') (hr' : R64 r') (hv' : R64 v') :
    Fun Tryd.prog tH 5 [.agg (parts d c e r v), .agg (parts d' c' e' r' v')] [] 0 (.bool true) [] 0 := by
  refine fun_any none (callS tabF cF) (callS_ok tabF_ok cF_ok) chk5 (show 2 ≤ 54 by decide) (by decide) ?_
  unfold sf5
  obtain ⟨a1, a2, a3, a4, a5, a6, a7⟩ := parts_facts e r v hd hc
  obtain ⟨b1, b2, b3, b4, b5, b6, b7⟩ := parts_facts e' r' v' hd' hc'
  have hs : (stmt d e r v c == stmtR d e r v c) = true := by rw [stmt_same he hr hv]; simp
  have hE : eqPat [.i .u8, .i .u8, .i .u8, .i .u8, .i .u8, .i .u8, .i .u8, .i .u8, .i .u8, .i .u8, .i .u8, .i .u8, .i .u8, .i .u8, .i .u8, .i .u8, .i .u8, .i .u8, .i .u8, .i .u8, .i .u8, .i .u8, .i .u8, .i .u8, .i .u8, .i .u8, .i .u8, .i .u8, .i .u8, .i .u8, .i .u8, .i .u8, .i .i64, .i .i64, .i .i64]
      (parts d c e r v) (parts d' c' e' r' v') = some (d == d' && (c == c' && (e == e' && (r == r' && (v == v' && true))))) := by
    have h3 : eqPat [.i .i64, .i .i64, .i .i64] [.int .i64 e, .int .i64 r, .int .i64 v] [.int .i64 e', .int .i64 r', .int .i64 v'] = some (e == e' && (r == r' && (v == v' && true))) := rfl
    have h2 := eqPat_bys c c' _ _ _ _ (by rw [hc, hc']) h3
    have h1 := eqPat_bys d d' _ _ _ _ (by rw [hd, hd']) h2
    rw [hd, hc] at h1
    exact h1
  have hI : ((stmt d e r v c == stmt d' e' r' v' c') == (d == d' && (c == c' && (e == e' && (r == r' && (v == v' && true)))))) = true := by
    by_cases hq : stmt d e r v c = stmt d' e' r' v' c'
    · obtain ⟨rfl, rfl, rfl, rfl, rfl⟩ := stmt_inj hd hd' he hr hv he' hr' hv' hq
      simp
    · have h1 : (stmt d e r v c == stmt d' e' r' v' c') = false := by simpa using hq
      have h2 : (d == d' && (c == c' && (e == e' && (r == r' && (v == v' && true))))) = false := by
        rw [Bool.eq_false_iff]
        intro h
        simp only [Bool.and_eq_true, beq_iff_eq, and_true] at h
        obtain ⟨rfl, rfl, rfl, rfl, rfl⟩ := h
        exact hq rfl
      rw [h1, h2]; rfl
  dsimp only at hE
  have pf := parts_flat d c e r v
  have pf' := parts_flat d' c' e' r' v'
  simp (config := { maxSteps := 1000000 }) only [tabF, gSane, gStmt, gStmtR, unB_bytes, ↓hE, hs, hI, a1, a2, a3, a4, a5, a6, a7, b1, b2, b3, b4, b5, b6, b7, hd, hc, hd', hc', SV.flatL, SV.flat, Bool.and_true, Bool.and_self, Bool.true_and, beq_self_eq_true, Int.reduceGE, Int.reduceGT, ↓u_callAnd, Blk.mk.injEq, List.cons.injEq, SV.int.injEq, SV.bool.injEq, SV.tup.injEq, SV.agg.injEq, and_self, undef, Int.reduceBNe, Int.reduceBEq, Nat.reduceBNe, Nat.reduceBEq, ↓u_callX, lookF, setv, finO_r, finO_n, finO_x, again_n, again_x, again_r, lookT, eqPat, eqTag, reduceCtorEq, Nat.reduceEqDiff, Nat.reduceAdd, Nat.reduceSub, Nat.reduceMul, Nat.reduceDiv, Nat.reduceLeDiff, Nat.reduceLT, Int.reduceToNat, Int.reduceLT, Int.reduceLE, Int.reduceAdd, Int.reduceSub, Int.reduceMul, Int.reduceNeg, Int.reduceEq, Int.reduceNe, wrap64, false_imp_iff, true_imp_iff, eq_self, decide_true, decide_false, Int.cast_ofNat_Int,  true_and, and_true, false_and, and_false, imp_self, implies_true, List.getElem?_cons_zero, List.getElem?_cons_succ, List.length_cons, List.length_nil, List.append_nil, List.nil_append, List.cons_append, List.take_succ_cons, List.take_zero, List.drop_succ_cons, List.drop_zero, List.take_nil, List.drop_nil, List.reverse_cons, List.reverse_nil, List.map_cons, List.map_nil, Nat.zero_add, Nat.add_zero, frOf, den_nil, den_o0, ↓gd_tt, ↓gd_ff, ↓gd_tf, ↓gd_ft, gd_any, den_o1, kont_app, den_g, setv, Bool.not_true, Bool.not_false, den_skip, den_reg, den_regD, den_regP, den_A, den_regW, den_W, den_bad, evW, baseD, stBlk, touch, clear, untouched, updsW, List.all_cons, List.all_nil, List.contains_cons, List.contains_nil, Bool.not_true, Bool.not_false, Bool.or_false, Bool.or_self, Bool.false_or, Bool.true_or, Bool.or_true, den_seq, den_cond, den_block, den_exit, den_ret, den_b, den_xb, den_xo, den_xc, den_xu, den_rb, den_ro, den_rc, den_ru, den_u, den_loopU, finP_r, finP_n, finP_x, finE_r, finE_n, finE_x, ↓reduceIte, ↓e_box, ↓e_build, ↓e_bslice, ↓e_load, ↓e_store, ↓e_idxS, ↓e_idxV, ↓e_idxT, ↓e_fieldV, ↓e_eqv, ↓e_isNil, ↓e_b2s, ↓e_slcS, ↓e_arrAt, ↓e_ext, ↓e_app, ↓e_copy, ↓e_mv, ↓e_pick, ↓e_new, ↓e_nilc, ↓e_fld, ↓e_idxA, ↓e_bin, ↓e_eqb, ↓e_un, ↓e_conv, ↓e_strS, ↓e_s2b, ↓e_mkfn, ↓e_mksl, ↓e_slcA, ↓e_slcT, ↓e_call, ↓e_callp, ↓e_callv, ↓e_len, ↓e_lenA, ↓e_mx, ↓e_mn, ↓e_mkmap, ↓e_mput, ↓e_mlen, ↓e_mk8, ↓e_capN, ↓e_appZ, ↓u_onInt, ↓u_onBool, ↓u_onOpt0, ↓u_onOpt1, ↓u_binV, ↓u_srcOf, ↓u_srcSl, ↓binI, ↓binS, ↓fillE, ↓evRes, evA, Opd.ev, Sx.get, put, putO, del, dels, frD, memD, pickD, kills, views, newer, rd, rm, upd, splice, keysOf, kvOf, SV.cells?, SV.one, retOf, ↓u_callS, canLW, canV, canC, belowL, apH, apH1, eta, SV.ren, SV.renL, newOwn, targets, rms, Kind.isOwn, ren_bytes, byte_ren, ren_ints, flat_ints, len_ints, List.getElem?_nil, Option.getD_none, Option.getD_some, Nat.sub_zero, not_true_eq_false, not_false_eq_true, Nat.le_refl, take_bytes, take_ints, nlS_0, nlS_1, nlM_0, nlM_1, nlN_0, nlN_1, take_bys1, map_byte, len_bytes, flat_bytes, Int.toNat_natCast, Nat.mul_one, Int.cast_ofNat_Int]
  exact ⟨[], by simp [EntM, compat, apartM, keysBelow, frEnt, geto, eta, idHs, rd, SV.ren, SV.renL, Option.getD_some, Option.getD_none, List.getElem?_cons_zero, List.getElem?_cons_succ, List.getElem?_nil, List.length_cons, List.length_nil, Nat.zero_add, Nat.add_zero, Nat.reduceAdd, Nat.reduceSub, Nat.reduceEqDiff, Nat.reduceLT, Nat.reduceLeDiff, ↓reduceIte, Kind.isOwn, List.take_succ_cons, List.take_zero, List.nil_append, List.cons_append, List.append_nil, List.take_nil, and_self, and_true, true_and, exists_eq_left', Option.some.injEq, Blk.mk.injEq, Kind.own.injEq, List.drop_zero, List.take_length, Nat.le_refl, ne_eq, not_false_eq_true, implies_true, List.forall_mem_cons, List.not_mem_nil, false_imp_iff, Bool.or_false, Bool.false_or, Bool.or_self, Bool.true_or, Bool.or_true, forall_const, reduceCtorEq, List.mem_cons, or_false, forall_eq_or_imp, forall_eq, Nat.succ_ne_self, exists_eq_left, Option.some_inj, byte_ren, one_byte, ren_bytes, len_bytes, take_bytes, take_ints, nlS_0, nlS_1, nlM_0, nlM_1, nlN_0, nlN_1, take_bys1, ren_ints, len_ints], by simpa only [Bool.and_true] using hI⟩
end Go.Proofs.YtkfbkooobfepeaaDoor

/- The engine, part Zd: tables: listed variables whose content a row gives. -/
namespace Go.Sx
open Go Go.WideShapes Go.ChangeShapes
set_option linter.unusedSimpArgs false
set_option linter.unusedVariables false

mutual
/-- the cells that a plain datum lays -/
def litsOf {H : Type} : DataW H → List Value
  | .lit (.int k n) => [.int k n]
  | .lit (.bool b) => [.bool b]
  | .lit (.string s) => [.string ⟨s.toArray⟩]
  | .agg parts => litsOfL parts
  | _ => []
def litsOfL {H : Type} : List (DataW H) → List Value
  | [] => []
  | d :: r => litsOf d ++ litsOfL r
end

def flatFs (fl : TypeId → Option Nat) (P : Program) : List Field → Nat → Option Nat
  | [], o => some o
  | f :: r, o => match fl f.type with
    | some a => if f.offset = o ∧ a = P.cellsOf f.type then flatFs fl P r (o + a) else none
    | none => none
/-- how many cells a type has that is made of plain cells -/
def flatT (P : Program) : Nat → TypeId → Option Nat
  | 0, _ => none
  | d + 1, t => match P.underlying t with
    | some .bool | some (.int _) | some .string => some 1
    | some (.struct fs) => match flatFs (flatT P d) P fs.toList 0 with
      | some n => if n = P.cellsOf t then some n else none
      | none => none
    | some (.array n e) => match flatT P d e with
      | some a => if a = P.cellsOf e ∧ n * a = P.cellsOf t then some (n * a) else none
      | none => none
    | _ => none

section
variable {H : Type} {enc : TypeId × Value → H} {P : Program} {w : World} {sp : Nat → Bool} {hd : Bool} {b : Nat}

theorem fields_lits {fl : TypeId → Option Nat} {tr : TypeId → List Value → Option (DataW H × List MemPlace)}
    (ih : ∀ t cs a x, fl t = some a → tr t cs = some x → cs.length = a → cs = litsOf x.1) :
    ∀ (fs : List Field) (o : Nat) (cs : List Value) (n : Nat) (xs : List (DataW H × List MemPlace)), flatFs fl P fs o = some n →
      fs.mapM (fun f => tr f.type ((cs.drop f.offset).take (P.cellsOf f.type))) = some xs → n ≤ cs.length → o ≤ n ∧
      (cs.drop o).take (n - o) = litsOfL (xs.map (·.1))
  | [], o, cs, n, xs, h, hx, _ => by
    simp [flatFs] at h; subst h
    simp at hx; subst hx
    simp [litsOfL]
  | f :: r, o, cs, n, xs, h, hx, hl => by
    simp only [flatFs] at h
    obtain ⟨y, ys, h1, h2, rfl⟩ := mapM_some_cons hx
    split at h
    · rename_i a ha
      split at h
      · rename_i hq
        obtain ⟨q1, q2⟩ := hq
        obtain ⟨g0, g3⟩ := fields_lits ih r _ cs _ ys h h2 hl
        rw [q1, ← q2] at h1
        have g1 := ih _ _ _ _ ha h1 (by simp; omega)
        refine ⟨by omega, ?_⟩
        simp only [List.map_cons, litsOfL]
        rw [← g1, ← g3]
        have : n - o = a + (n - (o + a)) := by omega
        rw [this, List.take_add, List.drop_drop]
      · cases h
    · cases h

theorem array_lits {a : Nat} {g : List Value → Option (DataW H × List MemPlace)}
    (ih : ∀ cs x, g cs = some x → cs.length = a → cs = litsOf x.1) :
    ∀ (n o : Nat) (cs : List Value) (xs : List (DataW H × List MemPlace)),
      (List.range' o n).mapM (fun i => g ((cs.drop (i * a)).take a)) = some xs → (o + n) * a ≤ cs.length →
      (cs.drop (o * a)).take (n * a) = litsOfL (xs.map (·.1))
  | 0, o, cs, xs, hx, _ => by simp at hx; subst hx; simp [litsOfL]
  | n + 1, o, cs, xs, hx, hl => by
    rw [List.range'_succ] at hx
    obtain ⟨y, ys, h1, h2, rfl⟩ := mapM_some_cons hx
    have hl1 : o * a + a ≤ cs.length := by
      have : (o + (n + 1)) * a = o * a + a + n * a := by rw [Nat.add_mul, Nat.add_mul]; omega
      omega
    have g1 := ih _ _ h1 (by simp; omega)
    have g3 := array_lits ih n (o + 1) cs ys h2 (by rw [show o + 1 + n = o + (n + 1) by omega]; exact hl)
    simp only [List.map_cons, litsOfL]
    rw [← g1, ← g3, show (n + 1) * a = a + n * a by rw [Nat.add_mul]; omega, List.take_add, List.drop_drop, Nat.add_mul o 1, Nat.one_mul]

theorem trod_lits : ∀ (fuel d : Nat) (t : TypeId) (cs : List Value) (a : Nat) (x : DataW H × List MemPlace), flatT P d t = some a →
    DataW.trod enc P w b sp hd fuel t cs = some x → cs.length = a → cs = litsOf x.1
  | 0, d, t, cs, a, x, _, hx, _ => by simp [DataW.trod] at hx
  | fuel + 1, 0, t, cs, a, x, h, _, _ => by simp [flatT] at h
  | fuel + 1, d + 1, t, cs, a, x, h, hx, hlen => by
    simp only [flatT] at h
    split at h
    · rename_i hu; obtain ⟨n, rfl, rfl⟩ := DataW.trod_bool hu hx; rfl
    · rename_i hu; obtain ⟨n, rfl, rfl, hw⟩ := DataW.trod_int hu hx; rfl
    · rename_i hu; obtain ⟨n, rfl, rfl, hw⟩ := DataW.trod_string hu hx; simp [litsOf]
    · rename_i fs hu
      split at h
      · rename_i n hn
        split at h
        · rename_i hc
          cases h
          simp only [DataW.trod, hu] at hx
          split at hx
          · obtain ⟨xs, hm, rfl⟩ := Option.map_eq_some_iff.1 hx
            obtain ⟨_, g⟩ := fields_lits (P := P) (fl := flatT P d) (tr := DataW.trod enc P w b sp hd fuel)
              (fun t cs a x h1 h2 h3 => trod_lits fuel d t cs a x h1 h2 h3) fs.toList 0 cs _ xs hn hm (by omega)
            simp only [List.drop_zero, Nat.sub_zero] at g
            rw [List.take_of_length_le (by omega)] at g
            simpa [litsOf] using g
          · cases hx
        · cases h
      · cases h
    · rename_i n e hu
      split at h
      · rename_i a' ha
        split at h
        · rename_i hq
          cases h
          obtain ⟨q1, q2⟩ := hq
          simp only [DataW.trod, hu] at hx
          split at hx
          · obtain ⟨xs, hm, rfl⟩ := Option.map_eq_some_iff.1 hx
            rw [← q1, List.range_eq_range'] at hm
            have g := array_lits (a := a') (g := DataW.trod enc P w b sp hd fuel e) (fun cs x h1 h3 => trod_lits fuel d e cs a' x ha h1 h3) n 0 cs xs hm (by rw [Nat.zero_add]; omega)
            rw [Nat.zero_mul, List.drop_zero, List.take_of_length_le (by omega)] at g
            simpa [litsOf] using g
          · cases hx
        · cases h
      · cases h
    · cases h

theorem trod_len {fuel d : Nat} {t : TypeId} {cs : List Value} {a : Nat} {x : DataW H × List MemPlace} (h : flatT P d t = some a) (hx : DataW.trod enc P w b sp hd fuel t cs = some x) : cs.length = a := by
  cases fuel with
  | zero => simp [DataW.trod] at hx
  | succ fuel =>
  cases d with
  | zero => simp [flatT] at h
  | succ d =>
    simp only [flatT] at h
    split at h
    · rename_i hu; cases h; obtain ⟨n, rfl, rfl⟩ := DataW.trod_bool hu hx; rfl
    · rename_i hu; cases h; obtain ⟨n, rfl, rfl, hw⟩ := DataW.trod_int hu hx; rfl
    · rename_i hu; cases h; obtain ⟨n, rfl, rfl, hw⟩ := DataW.trod_string hu hx; rfl
    · rename_i fs hu
      split at h
      · split at h
        · rename_i hc
          cases h
          simp only [DataW.trod, hu] at hx
          split at hx
          · omega
          · cases hx
        · cases h
      · cases h
    · rename_i n e hu
      split at h
      · split at h
        · rename_i hq
          cases h
          simp only [DataW.trod, hu] at hx
          split at hx
          · omega
          · cases hx
        · cases h
      · cases h
    · cases h
end

def convV : Value → SV
  | .int k n => .int k n
  | .bool b => .bool b
  | .string s => .str s.data.toList
  | v => .val v
theorem convV_is (ρ : Env) (v : Value) : (convV v).is ρ v := by
  unfold convV
  split <;> simp [SV.is]

mutual
theorem litsOf_one {H : Type} : ∀ (d : DataW H), ∀ v ∈ litsOf d, v.oneCell' = true
  | .lit (.int k n), v, h => by simp [litsOf] at h; subst h; rfl
  | .lit (.bool b), v, h => by simp [litsOf] at h; subst h; rfl
  | .lit (.string s), v, h => by simp [litsOf] at h; subst h; rfl
  | .lit (.float k b), v, h => by simp [litsOf] at h
  | .agg parts, v, h => litsOfL_one parts v (by simpa [litsOf] using h)
  | .nil, v, h => by simp [litsOf] at h
  | .ptr _, v, h => by simp [litsOf] at h
  | .slice _ _, v, h => by simp [litsOf] at h
  | .iface _ _, v, h => by simp [litsOf] at h
  | .map _, v, h => by simp [litsOf] at h
  | .held _, v, h => by simp [litsOf] at h
theorem litsOfL_one {H : Type} : ∀ (l : List (DataW H)), ∀ v ∈ litsOfL l, v.oneCell' = true
  | [], v, h => by simp [litsOfL] at h
  | d :: r, v, h => by
    simp only [litsOfL, List.mem_append] at h
    rcases h with h | h
    · exact litsOf_one d v h
    · exact litsOfL_one r v h
end

/-- a listed variable of plain cells, as a table of the engine -/
theorem tab_of_laid {P : Program} {W : World} {laid : List (String × DataW Unit)} {ps : List MemPlace} (h : DataW.LaidVars P W laid ps) {name : String} {x : DataW Unit} (hm : (name, x) ∈ laid)
    {g : Nat} {t : TypeId} {d a : Nat} (hg : P.globalNamed name = some g) (hty : (P.globals[g]?).map (·.type) = some t) (hf : flatT P d t = some a) (ha : (litsOf x).length = a) (hpos : 0 < a) :
    g < W.heap.size ∧ ∀ (j : Nat) v, ((litsOf x).map convV)[j]? = some v → ∃ y, W.cell? ⟨g, j, none⟩ = some y ∧ v.is (fun _ => none) y ∧ y.oneCell' = true := by
  induction laid generalizing ps with
  | nil => simp at hm
  | cons y r ih =>
    obtain ⟨n0, d0⟩ := y
    obtain ⟨g', t', cs, fuel, p, q, hg', ht', hvar, hd, hr, _⟩ := h
    rcases List.mem_cons.1 hm with e | hm
    · cases e
      obtain rfl := Option.some.inj (hg.symm.trans hg')
      obtain rfl := Option.some.inj (hty.symm.trans ht')
      have hcs := trod_lits fuel d t cs.toList a _ hf hd (trod_len hf hd)
      have hcell : ∀ j, W.cell? ⟨g, j, none⟩ = (litsOf x)[j]? := fun j => by
        have := World.var?_cell hg hvar j
        rw [this, ← hcs]; simp
      refine ⟨?_, fun j v hj => ?_⟩
      · have h0 := hcell 0
        rw [List.getElem?_eq_getElem (by omega)] at h0
        exact cell?_lt h0
      · rw [List.getElem?_map] at hj
        obtain ⟨y, hy, rfl⟩ := Option.map_eq_some_iff.1 hj
        exact ⟨y, by rw [hcell j, hy], convV_is _ _, litsOf_one x y (List.mem_of_getElem? hy)⟩
    · exact ih hr hm
end Go.Sx
