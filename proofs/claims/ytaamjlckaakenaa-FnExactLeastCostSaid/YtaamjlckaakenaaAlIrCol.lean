/-
  The code of functions, as the interpreter takes it: printed by a program of mine out of the loaded functions. Checked in each seat.
-/
import Derived.Test.YtaamjlckaakenaaAlDraw
namespace Go.AL.F
set_option linter.unusedSimpArgs false
set_option linter.unusedVariables false

def laws_FnExactFirstDesk : Fn := ⟨[.t 0],
 (.seq (.ops [⟨some 0,.mov (.k (.u (.a (.bool false)))),none⟩])
 (.seq (.ops [⟨some 6,.call 56 [],none⟩,⟨some 1,.alloc [(.str []),.nils,.nils,.nils],none⟩,⟨none,.store 4 (.s 1) (.s 6),none⟩])
 (.seq (.ops [⟨some 7,.call 57 [],none⟩,⟨some 2,.alloc [(.str []),.nils,.nils,.nils],none⟩,⟨none,.store 4 (.s 2) (.s 7),none⟩])
 (.seq (.seq (.ops [⟨some 8,.load true 4 (.s 2),none⟩,⟨some 9,.load true 4 (.s 1),none⟩,⟨some 10,.call 58 [(.s 8),(.s 9)],none⟩,⟨some 11,.not (.s 10),none⟩])
 (.cond (.s 11)
  (.seq (.ops [⟨some 0,.mov (.k (.u (.a (.bool false)))),none⟩])
  (.ret))
  (.skip)))
 (.seq (.ops [⟨some 3,.mov (.k (.u (.a (.int .i64 1)))),none⟩])
 (.seq (.ops [⟨some 12,.load true 4 (.s 2),none⟩,⟨some 13,.mov (.s 3),none⟩,⟨some 14,.call 59 [(.s 12),(.s 13)],none⟩,⟨some 3,.mov (.s 14),none⟩])
 (.seq (.ops [⟨some 4,.mov (.k (.u (.a (.int .i64 1)))),none⟩])
 (.seq (.ops [⟨some 15,.load true 4 (.s 2),none⟩,⟨some 16,.mov (.s 4),none⟩,⟨some 17,.call 60 [(.s 15),(.s 16)],none⟩,⟨some 4,.mov (.s 17),none⟩])
 (.seq (.seq (.ops [⟨some 18,.mov (.s 4),none⟩,⟨some 19,.bin .lss (.s 18) (.k (.u (.a (.int .i64 0)))),none⟩])
 (.cond (.s 19)
  (.seq (.ops [⟨some 0,.mov (.k (.u (.a (.bool false)))),none⟩])
  (.ret))
  (.skip)))
 (.seq (.seq (.ops [⟨some 20,.mov (.s 4),none⟩,⟨some 21,.mov (.s 3),none⟩,⟨some 22,.bin .neq (.s 20) (.s 21),none⟩])
 (.cond (.s 22)
  (.seq (.ops [⟨some 0,.mov (.k (.u (.a (.bool false)))),none⟩])
  (.ret))
  (.skip)))
 (.seq (.ops [⟨some 23,.call 57 [],none⟩,⟨some 5,.alloc [(.str []),.nils,.nils,.nils],none⟩,⟨none,.store 4 (.s 5) (.s 23),none⟩])
 (.seq (.seq (.ops [⟨some 24,.load true 4 (.s 5),none⟩,⟨some 25,.load true 4 (.s 1),none⟩,⟨some 26,.call 58 [(.s 24),(.s 25)],none⟩,⟨some 27,.not (.s 26),none⟩])
 (.cond (.s 27)
  (.seq (.ops [⟨some 0,.mov (.k (.u (.a (.bool false)))),none⟩])
  (.ret))
  (.skip)))
 (.seq (.ops [⟨some 4,.mov (.k (.u (.a (.int .i64 1)))),none⟩])
 (.seq (.ops [⟨some 28,.load true 4 (.s 2),none⟩,⟨some 29,.mov (.s 4),none⟩,⟨some 30,.call 60 [(.s 28),(.s 29)],none⟩,⟨some 4,.mov (.s 30),none⟩])
 (.seq (.seq (.ops [⟨some 31,.mov (.s 4),none⟩,⟨some 32,.bin .lss (.s 31) (.k (.u (.a (.int .i64 0)))),none⟩])
 (.cond (.s 32)
  (.seq (.ops [⟨some 0,.mov (.k (.u (.a (.bool false)))),none⟩])
  (.ret))
  (.skip)))
 (.seq (.seq (.ops [⟨some 33,.mov (.s 4),none⟩,⟨some 34,.mov (.s 3),none⟩,⟨some 35,.bin .neq (.s 33) (.s 34),none⟩])
 (.cond (.s 35)
  (.seq (.ops [⟨some 0,.mov (.k (.u (.a (.bool false)))),none⟩])
  (.ret))
  (.skip)))
 (.seq (.ops [⟨some 0,.mov (.k (.u (.a (.bool true)))),none⟩])
 (.ret))))))))))))))))))⟩

def laws_FnExactCountProper : Fn := ⟨[.t 6],
 (.seq (.ops [⟨some 6,.mov (.k (.u (.a (.bool false)))),none⟩])
 (.seq (.ops [⟨some 12,.mov (.s 0),none⟩,⟨some 13,.mov (.s 1),none⟩,⟨some 14,.mov (.s 2),none⟩,⟨some 15,.call 61 [(.s 12),(.s 13),(.s 14)],none⟩,⟨some 11,.mov (.s 15),none⟩,⟨some 16,.ext (.s 11) 0,none⟩,⟨some 17,.ext (.s 11) 1,none⟩,⟨some 7,.mov (.s 16),none⟩,⟨some 8,.mov (.s 17),none⟩])
 (.seq (.ops [⟨some 19,.mov (.s 0),none⟩,⟨some 20,.mov (.s 1),none⟩,⟨some 21,.mov (.s 2),none⟩,⟨some 22,.call 62 [(.s 19),(.s 20),(.s 21)],none⟩,⟨some 18,.mov (.s 22),none⟩,⟨some 23,.ext (.s 18) 0,none⟩,⟨some 24,.ext (.s 18) 1,none⟩,⟨some 9,.mov (.s 23),none⟩,⟨some 10,.mov (.s 24),none⟩])
 (.seq (.seq (.ops [⟨some 25,.mov (.s 9),none⟩,⟨some 26,.mov (.s 7),none⟩,⟨some 27,.bin .neq (.s 25) (.s 26),none⟩,⟨some 28,.mov (.s 27),none⟩,⟨some 29,.mov (.s 10),some (28,false)⟩,⟨some 30,.mov (.s 8),some (28,false)⟩,⟨some 31,.beq true (.s 29) (.s 30),some (28,false)⟩,⟨some 32,.pick (.s 28) (.k (.u (.a (.bool true)))) (.s 31),none⟩])
 (.cond (.s 32)
  (.seq (.ops [⟨some 6,.mov (.k (.u (.a (.bool false)))),none⟩])
  (.ret))
  (.skip)))
 (.seq (.ops [⟨some 6,.mov (.k (.u (.a (.bool true)))),none⟩])
 (.ret))))))⟩

def laws_FnExactCountMirrored : Fn := ⟨[.t 4],
 (.seq (.ops [⟨some 4,.mov (.k (.u (.a (.bool false)))),none⟩])
 (.seq (.ops [⟨some 10,.mov (.s 0),none⟩,⟨some 11,.mov (.s 1),none⟩,⟨some 12,.call 63 [(.s 10),(.s 11)],none⟩,⟨some 9,.mov (.s 12),none⟩,⟨some 13,.ext (.s 9) 0,none⟩,⟨some 14,.ext (.s 9) 1,none⟩,⟨some 5,.mov (.s 13),none⟩,⟨some 6,.mov (.s 14),none⟩])
 (.seq (.ops [⟨some 16,.mov (.s 0),none⟩,⟨some 17,.mov (.s 1),none⟩,⟨some 18,.call 64 [(.s 16),(.s 17)],none⟩,⟨some 15,.mov (.s 18),none⟩,⟨some 19,.ext (.s 15) 0,none⟩,⟨some 20,.ext (.s 15) 1,none⟩,⟨some 7,.mov (.s 19),none⟩,⟨some 8,.mov (.s 20),none⟩])
 (.seq (.seq (.ops [⟨some 21,.mov (.s 7),none⟩,⟨some 22,.mov (.s 5),none⟩,⟨some 23,.bin .neq (.s 21) (.s 22),none⟩,⟨some 24,.mov (.s 23),none⟩,⟨some 25,.mov (.s 8),some (24,false)⟩,⟨some 26,.mov (.s 6),some (24,false)⟩,⟨some 27,.beq true (.s 25) (.s 26),some (24,false)⟩,⟨some 28,.pick (.s 24) (.k (.u (.a (.bool true)))) (.s 27),none⟩])
 (.cond (.s 28)
  (.seq (.ops [⟨some 4,.mov (.k (.u (.a (.bool false)))),none⟩])
  (.ret))
  (.skip)))
 (.seq (.ops [⟨some 4,.mov (.k (.u (.a (.bool true)))),none⟩])
 (.ret))))))⟩

def laws_FnExactIsDesk : Fn := ⟨[.t 2],
 (.seq (.ops [⟨some 1,.box (.s 0),none⟩,⟨some 2,.mov (.k (.u (.a (.bool false)))),none⟩])
 (.seq (.ops [⟨some 3,.mov (.k (.u (.a (.int .i64 1048576)))),none⟩])
 (.seq (.ops [⟨some 7,.load true 4 (.s 1),none⟩,⟨some 8,.mov (.s 3),none⟩,⟨some 9,.call 65 [(.s 7),(.s 8)],none⟩,⟨some 3,.mov (.s 9),none⟩])
 (.seq (.seq (.ops [⟨some 10,.mov (.s 3),none⟩,⟨some 11,.bin .lss (.s 10) (.k (.u (.a (.int .i64 0)))),none⟩])
 (.cond (.s 11)
  (.seq (.ops [⟨some 2,.mov (.k (.u (.a (.bool true)))),none⟩])
  (.ret))
  (.skip)))
 (.seq (.ops [⟨some 12,.load true 4 (.s 1),none⟩,⟨some 13,.call 67 [(.s 12)],none⟩,⟨some 14,.call 66 [(.s 13)],none⟩,⟨some 4,.mov (.s 14),none⟩])
 (.seq (.ops [⟨some 15,.load true 4 (.s 1),none⟩,⟨some 16,.call 67 [(.s 15)],none⟩,⟨some 5,.alloc [(.str []),.nils,.nils,.nils],none⟩,⟨none,.store 4 (.s 5) (.s 16),none⟩])
 (.seq (.ops [⟨some 17,.load true 4 (.s 5),none⟩,⟨some 18,.call 68 [(.s 17)],none⟩,⟨some 6,.mov (.s 18),none⟩])
 (.seq (.seq (.ops [⟨some 19,.mov (.s 6),none⟩,⟨some 20,.mov (.s 4),none⟩,⟨some 21,.beq true (.s 19) (.s 20),none⟩])
 (.cond (.s 21)
  (.seq (.ops [⟨some 2,.mov (.k (.u (.a (.bool false)))),none⟩])
  (.ret))
  (.skip)))
 (.seq (.seq (.dops [⟨⟨some 22,.load true 4 (.s 5),none⟩,[]⟩,⟨⟨some 23,.load true 4 (.s 1),none⟩,[]⟩,⟨⟨some 24,.call 67 [(.s 23)],none⟩,[⟨some 22,.load true 4 (.s 5),none⟩]⟩,⟨⟨some 25,.call 58 [(.s 22),(.s 24)],none⟩,[]⟩,⟨⟨some 26,.not (.s 25),none⟩,[]⟩])
 (.cond (.s 26)
  (.seq (.ops [⟨some 2,.mov (.k (.u (.a (.bool false)))),none⟩])
  (.ret))
  (.skip)))
 (.seq (.ops [⟨some 2,.mov (.k (.u (.a (.bool true)))),none⟩])
 (.ret)))))))))))⟩

def laws_FnExactCountAllTints : Fn := ⟨[.t 4],
 (.seq (.ops [⟨some 4,.mov (.k (.u (.a (.bool false)))),none⟩])
 (.seq (.ops [⟨some 10,.mov (.s 0),none⟩,⟨some 11,.mov (.s 1),none⟩,⟨some 12,.call 69 [(.s 10),(.s 11)],none⟩,⟨some 9,.mov (.s 12),none⟩,⟨some 13,.ext (.s 9) 0,none⟩,⟨some 14,.ext (.s 9) 1,none⟩,⟨some 5,.mov (.s 13),none⟩,⟨some 6,.mov (.s 14),none⟩])
 (.seq (.ops [⟨some 16,.mov (.s 0),none⟩,⟨some 17,.mov (.s 1),none⟩,⟨some 18,.call 70 [(.s 16),(.s 17)],none⟩,⟨some 15,.mov (.s 18),none⟩,⟨some 19,.ext (.s 15) 0,none⟩,⟨some 20,.ext (.s 15) 1,none⟩,⟨some 7,.mov (.s 19),none⟩,⟨some 8,.mov (.s 20),none⟩])
 (.seq (.seq (.ops [⟨some 21,.mov (.s 7),none⟩,⟨some 22,.mov (.s 5),none⟩,⟨some 23,.bin .neq (.s 21) (.s 22),none⟩,⟨some 24,.mov (.s 23),none⟩,⟨some 25,.mov (.s 8),some (24,false)⟩,⟨some 26,.mov (.s 6),some (24,false)⟩,⟨some 27,.beq true (.s 25) (.s 26),some (24,false)⟩,⟨some 28,.pick (.s 24) (.k (.u (.a (.bool true)))) (.s 27),none⟩])
 (.cond (.s 28)
  (.seq (.ops [⟨some 4,.mov (.k (.u (.a (.bool false)))),none⟩])
  (.ret))
  (.skip)))
 (.seq (.ops [⟨some 4,.mov (.k (.u (.a (.bool true)))),none⟩])
 (.ret))))))⟩

def laws_FnExactFirstProper : Fn := ⟨[.t 6],
 (.seq (.ops [⟨some 6,.mov (.k (.u (.a (.bool false)))),none⟩])
 (.seq (.ops [⟨some 12,.mov (.s 0),none⟩,⟨some 13,.mov (.s 1),none⟩,⟨some 14,.mov (.s 2),none⟩,⟨some 15,.call 71 [(.s 12),(.s 13),(.s 14)],none⟩,⟨some 11,.mov (.s 15),none⟩,⟨some 16,.ext (.s 11) 0,none⟩,⟨some 17,.ext (.s 11) 1,none⟩,⟨some 7,.mov (.s 16),none⟩,⟨some 8,.mov (.s 17),none⟩])
 (.seq (.ops [⟨some 19,.mov (.s 0),none⟩,⟨some 20,.mov (.s 1),none⟩,⟨some 21,.mov (.s 2),none⟩,⟨some 22,.call 72 [(.s 19),(.s 20),(.s 21)],none⟩,⟨some 18,.mov (.s 22),none⟩,⟨some 23,.ext (.s 18) 0,none⟩,⟨some 24,.ext (.s 18) 1,none⟩,⟨some 9,.mov (.s 23),none⟩,⟨some 10,.mov (.s 24),none⟩])
 (.seq (.seq (.ops [⟨some 25,.mov (.s 9),none⟩,⟨some 26,.mov (.s 7),none⟩,⟨some 27,.bin .neq (.s 25) (.s 26),none⟩,⟨some 28,.mov (.s 27),none⟩,⟨some 29,.mov (.s 10),some (28,false)⟩,⟨some 30,.mov (.s 8),some (28,false)⟩,⟨some 31,.beq true (.s 29) (.s 30),some (28,false)⟩,⟨some 32,.pick (.s 28) (.k (.u (.a (.bool true)))) (.s 31),none⟩])
 (.cond (.s 32)
  (.seq (.ops [⟨some 6,.mov (.k (.u (.a (.bool false)))),none⟩])
  (.ret))
  (.skip)))
 (.seq (.ops [⟨some 6,.mov (.k (.u (.a (.bool true)))),none⟩])
 (.ret))))))⟩

def laws_FnExactProperOfRank : Fn := ⟨[.t 8],
 (.seq (.ops [⟨some 8,.mov (.k (.u (.a (.bool false)))),none⟩])
 (.seq (.ops [⟨some 14,.mov (.s 0),none⟩,⟨some 15,.mov (.s 1),none⟩,⟨some 16,.mov (.s 2),none⟩,⟨some 17,.mov (.s 3),none⟩,⟨some 18,.call 75 [(.s 14),(.s 15),(.s 16),(.s 17)],none⟩,⟨some 13,.mov (.s 18),none⟩,⟨some 19,.ext (.s 13) 0,none⟩,⟨some 20,.ext (.s 13) 1,none⟩,⟨some 9,.mov (.s 19),none⟩,⟨some 10,.mov (.s 20),none⟩])
 (.seq (.ops [⟨some 22,.mov (.s 0),none⟩,⟨some 23,.mov (.s 1),none⟩,⟨some 24,.mov (.s 2),none⟩,⟨some 25,.mov (.s 3),none⟩,⟨some 26,.call 76 [(.s 22),(.s 23),(.s 24),(.s 25)],none⟩,⟨some 21,.mov (.s 26),none⟩,⟨some 27,.ext (.s 21) 0,none⟩,⟨some 28,.ext (.s 21) 1,none⟩,⟨some 11,.mov (.s 27),none⟩,⟨some 12,.mov (.s 28),none⟩])
 (.seq (.seq (.ops [⟨some 29,.mov (.s 11),none⟩,⟨some 30,.mov (.s 9),none⟩,⟨some 31,.bin .neq (.s 29) (.s 30),none⟩,⟨some 32,.mov (.s 31),none⟩,⟨some 33,.mov (.s 12),some (32,false)⟩,⟨some 34,.mov (.s 10),some (32,false)⟩,⟨some 35,.beq true (.s 33) (.s 34),some (32,false)⟩,⟨some 36,.pick (.s 32) (.k (.u (.a (.bool true)))) (.s 35),none⟩])
 (.cond (.s 36)
  (.seq (.ops [⟨some 8,.mov (.k (.u (.a (.bool false)))),none⟩])
  (.ret))
  (.skip)))
 (.seq (.ops [⟨some 8,.mov (.k (.u (.a (.bool true)))),none⟩])
 (.ret))))))⟩

def laws_FnExactFewestRepaints : Fn := ⟨[.t 6],
 (.seq (.ops [⟨some 6,.mov (.k (.u (.a (.bool false)))),none⟩])
 (.seq (.seq (.ops [⟨some 11,.mov (.s 0),none⟩,⟨some 12,.lens (.s 11),none⟩,⟨some 13,.bin .gtr (.s 12) (.k (.u (.a (.int .i64 1048576)))),none⟩])
 (.cond (.s 13)
  (.seq (.ops [⟨some 6,.mov (.k (.u (.a (.bool true)))),none⟩])
  (.ret))
  (.skip)))
 (.seq (.ops [⟨some 15,.mov (.s 0),none⟩,⟨some 16,.mov (.s 1),none⟩,⟨some 17,.mov (.s 2),none⟩,⟨some 18,.call 77 [(.s 15),(.s 16),(.s 17)],none⟩,⟨some 14,.mov (.s 18),none⟩,⟨some 19,.ext (.s 14) 0,none⟩,⟨some 20,.ext (.s 14) 1,none⟩,⟨some 7,.mov (.s 19),none⟩,⟨some 8,.mov (.s 20),none⟩])
 (.seq (.ops [⟨some 22,.mov (.s 0),none⟩,⟨some 23,.mov (.s 1),none⟩,⟨some 24,.mov (.s 2),none⟩,⟨some 25,.call 78 [(.s 22),(.s 23),(.s 24)],none⟩,⟨some 21,.mov (.s 25),none⟩,⟨some 26,.ext (.s 21) 0,none⟩,⟨some 27,.ext (.s 21) 1,none⟩,⟨some 9,.mov (.s 26),none⟩,⟨some 10,.mov (.s 27),none⟩])
 (.seq (.seq (.ops [⟨some 28,.mov (.s 9),none⟩,⟨some 29,.mov (.s 7),none⟩,⟨some 30,.bin .neq (.s 28) (.s 29),none⟩,⟨some 31,.mov (.s 30),none⟩,⟨some 32,.mov (.s 10),some (31,false)⟩,⟨some 33,.mov (.s 8),some (31,false)⟩,⟨some 34,.beq true (.s 32) (.s 33),some (31,false)⟩,⟨some 35,.pick (.s 31) (.k (.u (.a (.bool true)))) (.s 34),none⟩])
 (.cond (.s 35)
  (.seq (.ops [⟨some 6,.mov (.k (.u (.a (.bool false)))),none⟩])
  (.ret))
  (.skip)))
 (.seq (.ops [⟨some 6,.mov (.k (.u (.a (.bool true)))),none⟩])
 (.ret)))))))⟩

def laws_FnExactCountFills : Fn := ⟨[.t 6],
 (.seq (.ops [⟨some 6,.mov (.k (.u (.a (.bool false)))),none⟩])
 (.seq (.seq (.ops [⟨some 11,.mov (.s 0),none⟩,⟨some 12,.lens (.s 11),none⟩,⟨some 13,.bin .gtr (.s 12) (.k (.u (.a (.int .i64 1048576)))),none⟩])
 (.cond (.s 13)
  (.seq (.ops [⟨some 6,.mov (.k (.u (.a (.bool true)))),none⟩])
  (.ret))
  (.skip)))
 (.seq (.ops [⟨some 15,.mov (.s 0),none⟩,⟨some 16,.mov (.s 1),none⟩,⟨some 17,.mov (.s 2),none⟩,⟨some 18,.call 79 [(.s 15),(.s 16),(.s 17)],none⟩,⟨some 14,.mov (.s 18),none⟩,⟨some 19,.ext (.s 14) 0,none⟩,⟨some 20,.ext (.s 14) 1,none⟩,⟨some 7,.mov (.s 19),none⟩,⟨some 8,.mov (.s 20),none⟩])
 (.seq (.ops [⟨some 22,.mov (.s 0),none⟩,⟨some 23,.mov (.s 1),none⟩,⟨some 24,.mov (.s 2),none⟩,⟨some 25,.call 80 [(.s 22),(.s 23),(.s 24)],none⟩,⟨some 21,.mov (.s 25),none⟩,⟨some 26,.ext (.s 21) 0,none⟩,⟨some 27,.ext (.s 21) 1,none⟩,⟨some 9,.mov (.s 26),none⟩,⟨some 10,.mov (.s 27),none⟩])
 (.seq (.seq (.ops [⟨some 28,.mov (.s 9),none⟩,⟨some 29,.mov (.s 7),none⟩,⟨some 30,.bin .neq (.s 28) (.s 29),none⟩,⟨some 31,.mov (.s 30),none⟩,⟨some 32,.mov (.s 10),some (31,false)⟩,⟨some 33,.mov (.s 8),some (31,false)⟩,⟨some 34,.beq true (.s 32) (.s 33),some (31,false)⟩,⟨some 35,.pick (.s 31) (.k (.u (.a (.bool true)))) (.s 34),none⟩])
 (.cond (.s 35)
  (.seq (.ops [⟨some 6,.mov (.k (.u (.a (.bool false)))),none⟩])
  (.ret))
  (.skip)))
 (.seq (.ops [⟨some 6,.mov (.k (.u (.a (.bool true)))),none⟩])
 (.ret)))))))⟩

def laws_FnExactLeastCost : Fn := ⟨[.t 2],
 (.seq (.ops [⟨some 2,.mov (.k (.u (.a (.bool false)))),none⟩])
 (.seq (.ops [⟨some 3,.mov (.k (.u (.a (.int .i64 1048576)))),none⟩])
 (.seq (.ops [⟨some 9,.mov (.s 0),none⟩,⟨some 10,.mov (.s 3),none⟩,⟨some 11,.call 81 [(.s 9),(.s 10)],none⟩,⟨some 3,.mov (.s 11),none⟩])
 (.seq (.seq (.ops [⟨some 12,.mov (.s 3),none⟩,⟨some 13,.bin .lss (.s 12) (.k (.u (.a (.int .i64 0)))),none⟩])
 (.cond (.s 13)
  (.seq (.ops [⟨some 2,.mov (.k (.u (.a (.bool true)))),none⟩])
  (.ret))
  (.skip)))
 (.seq (.ops [⟨some 15,.mov (.s 0),none⟩,⟨some 16,.call 83 [(.s 15)],none⟩,⟨some 17,.call 82 [(.s 16)],none⟩,⟨some 14,.mov (.s 17),none⟩,⟨some 18,.ext (.s 14) 0,none⟩,⟨some 19,.ext (.s 14) 1,none⟩,⟨some 4,.mov (.s 18),none⟩,⟨some 5,.mov (.s 19),none⟩])
 (.seq (.ops [⟨some 20,.mov (.s 0),none⟩,⟨some 21,.call 83 [(.s 20)],none⟩,⟨some 6,.mov (.s 21),none⟩])
 (.seq (.ops [⟨some 23,.mov (.s 6),none⟩,⟨some 24,.call 84 [(.s 23)],none⟩,⟨some 22,.mov (.s 24),none⟩,⟨some 25,.ext (.s 22) 0,none⟩,⟨some 26,.ext (.s 22) 1,none⟩,⟨some 7,.mov (.s 25),none⟩,⟨some 8,.mov (.s 26),none⟩])
 (.seq (.seq (.ops [⟨some 27,.mov (.s 7),none⟩,⟨some 28,.mov (.s 4),none⟩,⟨some 29,.bin .neq (.s 27) (.s 28),none⟩,⟨some 30,.mov (.s 29),none⟩,⟨some 31,.mov (.s 8),some (30,false)⟩,⟨some 32,.mov (.s 5),some (30,false)⟩,⟨some 33,.beq true (.s 31) (.s 32),some (30,false)⟩,⟨some 34,.pick (.s 30) (.k (.u (.a (.bool true)))) (.s 33),none⟩])
 (.cond (.s 34)
  (.seq (.ops [⟨some 2,.mov (.k (.u (.a (.bool false)))),none⟩])
  (.ret))
  (.skip)))
 (.seq (.seq (.ops [⟨some 35,.mov (.s 6),none⟩,⟨some 36,.mov (.s 0),none⟩,⟨some 37,.call 83 [(.s 36)],none⟩,⟨some 38,.call 85 [(.s 35),(.s 37)],none⟩,⟨some 39,.not (.s 38),none⟩])
 (.cond (.s 39)
  (.seq (.ops [⟨some 2,.mov (.k (.u (.a (.bool false)))),none⟩])
  (.ret))
  (.skip)))
 (.seq (.ops [⟨some 2,.mov (.k (.u (.a (.bool true)))),none⟩])
 (.ret)))))))))))⟩

def laws_FnExactFirstRepainted : Fn := ⟨[.t 6],
 (.seq (.ops [⟨some 6,.mov (.k (.u (.a (.bool false)))),none⟩])
 (.seq (.seq (.ops [⟨some 11,.mov (.s 0),none⟩,⟨some 12,.lens (.s 11),none⟩,⟨some 13,.bin .gtr (.s 12) (.k (.u (.a (.int .i64 1048576)))),none⟩])
 (.cond (.s 13)
  (.seq (.ops [⟨some 6,.mov (.k (.u (.a (.bool true)))),none⟩])
  (.ret))
  (.skip)))
 (.seq (.ops [⟨some 15,.mov (.s 0),none⟩,⟨some 16,.mov (.s 1),none⟩,⟨some 17,.mov (.s 2),none⟩,⟨some 18,.call 114 [(.s 15),(.s 16),(.s 17)],none⟩,⟨some 14,.mov (.s 18),none⟩,⟨some 19,.ext (.s 14) 0,none⟩,⟨some 20,.ext (.s 14) 1,none⟩,⟨some 7,.mov (.s 19),none⟩,⟨some 8,.mov (.s 20),none⟩])
 (.seq (.ops [⟨some 22,.mov (.s 0),none⟩,⟨some 23,.mov (.s 1),none⟩,⟨some 24,.mov (.s 2),none⟩,⟨some 25,.call 115 [(.s 22),(.s 23),(.s 24)],none⟩,⟨some 21,.mov (.s 25),none⟩,⟨some 26,.ext (.s 21) 0,none⟩,⟨some 27,.ext (.s 21) 1,none⟩,⟨some 9,.mov (.s 26),none⟩,⟨some 10,.mov (.s 27),none⟩])
 (.seq (.seq (.ops [⟨some 28,.mov (.s 9),none⟩,⟨some 29,.mov (.s 7),none⟩,⟨some 30,.bin .neq (.s 28) (.s 29),none⟩,⟨some 31,.mov (.s 30),none⟩,⟨some 32,.mov (.s 10),some (31,false)⟩,⟨some 33,.mov (.s 8),some (31,false)⟩,⟨some 34,.beq true (.s 32) (.s 33),some (31,false)⟩,⟨some 35,.pick (.s 31) (.k (.u (.a (.bool true)))) (.s 34),none⟩])
 (.cond (.s 35)
  (.seq (.ops [⟨some 6,.mov (.k (.u (.a (.bool false)))),none⟩])
  (.ret))
  (.skip)))
 (.seq (.ops [⟨some 6,.mov (.k (.u (.a (.bool true)))),none⟩])
 (.ret)))))))⟩

def laws_FnExactFillProper : Fn := ⟨[.t 6],
 (.seq (.ops [⟨some 6,.mov (.k (.u (.a (.bool false)))),none⟩])
 (.seq (.seq (.ops [⟨some 11,.mov (.s 0),none⟩,⟨some 12,.lens (.s 11),none⟩,⟨some 13,.bin .gtr (.s 12) (.k (.u (.a (.int .i64 1048576)))),none⟩])
 (.cond (.s 13)
  (.seq (.ops [⟨some 6,.mov (.k (.u (.a (.bool true)))),none⟩])
  (.ret))
  (.skip)))
 (.seq (.ops [⟨some 15,.mov (.s 0),none⟩,⟨some 16,.mov (.s 1),none⟩,⟨some 17,.mov (.s 2),none⟩,⟨some 18,.call 116 [(.s 15),(.s 16),(.s 17)],none⟩,⟨some 14,.mov (.s 18),none⟩,⟨some 19,.ext (.s 14) 0,none⟩,⟨some 20,.ext (.s 14) 1,none⟩,⟨some 7,.mov (.s 19),none⟩,⟨some 8,.mov (.s 20),none⟩])
 (.seq (.ops [⟨some 22,.mov (.s 0),none⟩,⟨some 23,.mov (.s 1),none⟩,⟨some 24,.mov (.s 2),none⟩,⟨some 25,.call 117 [(.s 22),(.s 23),(.s 24)],none⟩,⟨some 21,.mov (.s 25),none⟩,⟨some 26,.ext (.s 21) 0,none⟩,⟨some 27,.ext (.s 21) 1,none⟩,⟨some 9,.mov (.s 26),none⟩,⟨some 10,.mov (.s 27),none⟩])
 (.seq (.seq (.ops [⟨some 28,.mov (.s 9),none⟩,⟨some 29,.mov (.s 7),none⟩,⟨some 30,.bin .neq (.s 28) (.s 29),none⟩,⟨some 31,.mov (.s 30),none⟩,⟨some 32,.mov (.s 10),some (31,false)⟩,⟨some 33,.mov (.s 8),some (31,false)⟩,⟨some 34,.beq true (.s 32) (.s 33),some (31,false)⟩,⟨some 35,.pick (.s 31) (.k (.u (.a (.bool true)))) (.s 34),none⟩])
 (.cond (.s 35)
  (.seq (.ops [⟨some 6,.mov (.k (.u (.a (.bool false)))),none⟩])
  (.ret))
  (.skip)))
 (.seq (.ops [⟨some 6,.mov (.k (.u (.a (.bool true)))),none⟩])
 (.ret)))))))⟩

def laws_FnExactRankOfProper : Fn := ⟨[.t 6],
 (.seq (.ops [⟨some 6,.mov (.k (.u (.a (.bool false)))),none⟩])
 (.seq (.seq (.ops [⟨some 11,.mov (.s 0),none⟩,⟨some 12,.lens (.s 11),none⟩,⟨some 13,.bin .gtr (.s 12) (.k (.u (.a (.int .i64 1048576)))),none⟩])
 (.cond (.s 13)
  (.seq (.ops [⟨some 6,.mov (.k (.u (.a (.bool true)))),none⟩])
  (.ret))
  (.skip)))
 (.seq (.ops [⟨some 15,.mov (.s 0),none⟩,⟨some 16,.mov (.s 1),none⟩,⟨some 17,.mov (.s 2),none⟩,⟨some 18,.call 118 [(.s 15),(.s 16),(.s 17)],none⟩,⟨some 14,.mov (.s 18),none⟩,⟨some 19,.ext (.s 14) 0,none⟩,⟨some 20,.ext (.s 14) 1,none⟩,⟨some 7,.mov (.s 19),none⟩,⟨some 8,.mov (.s 20),none⟩])
 (.seq (.ops [⟨some 22,.mov (.s 0),none⟩,⟨some 23,.mov (.s 1),none⟩,⟨some 24,.mov (.s 2),none⟩,⟨some 25,.call 119 [(.s 22),(.s 23),(.s 24)],none⟩,⟨some 21,.mov (.s 25),none⟩,⟨some 26,.ext (.s 21) 0,none⟩,⟨some 27,.ext (.s 21) 1,none⟩,⟨some 9,.mov (.s 26),none⟩,⟨some 10,.mov (.s 27),none⟩])
 (.seq (.seq (.ops [⟨some 28,.mov (.s 9),none⟩,⟨some 29,.mov (.s 7),none⟩,⟨some 30,.bin .neq (.s 28) (.s 29),none⟩,⟨some 31,.mov (.s 30),none⟩,⟨some 32,.mov (.s 10),some (31,false)⟩,⟨some 33,.mov (.s 8),some (31,false)⟩,⟨some 34,.beq true (.s 32) (.s 33),some (31,false)⟩,⟨some 35,.pick (.s 31) (.k (.u (.a (.bool true)))) (.s 34),none⟩])
 (.cond (.s 35)
  (.seq (.ops [⟨some 6,.mov (.k (.u (.a (.bool false)))),none⟩])
  (.ret))
  (.skip)))
 (.seq (.ops [⟨some 6,.mov (.k (.u (.a (.bool true)))),none⟩])
 (.ret)))))))⟩

def laws_FnExactFirstCheapest : Fn := ⟨[.t 2],
 (.seq (.ops [⟨some 2,.mov (.k (.u (.a (.bool false)))),none⟩])
 (.seq (.ops [⟨some 3,.mov (.k (.u (.a (.int .i64 1048576)))),none⟩])
 (.seq (.ops [⟨some 9,.mov (.s 0),none⟩,⟨some 10,.mov (.s 3),none⟩,⟨some 11,.call 81 [(.s 9),(.s 10)],none⟩,⟨some 3,.mov (.s 11),none⟩])
 (.seq (.seq (.ops [⟨some 12,.mov (.s 3),none⟩,⟨some 13,.bin .lss (.s 12) (.k (.u (.a (.int .i64 0)))),none⟩])
 (.cond (.s 13)
  (.seq (.ops [⟨some 2,.mov (.k (.u (.a (.bool true)))),none⟩])
  (.ret))
  (.skip)))
 (.seq (.ops [⟨some 15,.mov (.s 0),none⟩,⟨some 16,.call 83 [(.s 15)],none⟩,⟨some 17,.call 120 [(.s 16)],none⟩,⟨some 14,.mov (.s 17),none⟩,⟨some 18,.ext (.s 14) 0,none⟩,⟨some 19,.ext (.s 14) 1,none⟩,⟨some 4,.mov (.s 18),none⟩,⟨some 5,.mov (.s 19),none⟩])
 (.seq (.ops [⟨some 20,.mov (.s 0),none⟩,⟨some 21,.call 83 [(.s 20)],none⟩,⟨some 6,.mov (.s 21),none⟩])
 (.seq (.ops [⟨some 23,.mov (.s 6),none⟩,⟨some 24,.call 121 [(.s 23)],none⟩,⟨some 22,.mov (.s 24),none⟩,⟨some 25,.ext (.s 22) 0,none⟩,⟨some 26,.ext (.s 22) 1,none⟩,⟨some 7,.mov (.s 25),none⟩,⟨some 8,.mov (.s 26),none⟩])
 (.seq (.seq (.ops [⟨some 27,.mov (.s 7),none⟩,⟨some 28,.mov (.s 4),none⟩,⟨some 29,.bin .neq (.s 27) (.s 28),none⟩,⟨some 30,.mov (.s 29),none⟩,⟨some 31,.mov (.s 8),some (30,false)⟩,⟨some 32,.mov (.s 5),some (30,false)⟩,⟨some 33,.beq true (.s 31) (.s 32),some (30,false)⟩,⟨some 34,.pick (.s 30) (.k (.u (.a (.bool true)))) (.s 33),none⟩])
 (.cond (.s 34)
  (.seq (.ops [⟨some 2,.mov (.k (.u (.a (.bool false)))),none⟩])
  (.ret))
  (.skip)))
 (.seq (.seq (.ops [⟨some 35,.mov (.s 6),none⟩,⟨some 36,.mov (.s 0),none⟩,⟨some 37,.call 83 [(.s 36)],none⟩,⟨some 38,.call 85 [(.s 35),(.s 37)],none⟩,⟨some 39,.not (.s 38),none⟩])
 (.cond (.s 39)
  (.seq (.ops [⟨some 2,.mov (.k (.u (.a (.bool false)))),none⟩])
  (.ret))
  (.skip)))
 (.seq (.ops [⟨some 2,.mov (.k (.u (.a (.bool true)))),none⟩])
 (.ret)))))))))))⟩

def laws_FnExactCountListed : Fn := ⟨[.t 2],
 (.seq (.ops [⟨some 2,.mov (.k (.u (.a (.bool false)))),none⟩])
 (.seq (.ops [⟨some 3,.mov (.k (.u (.a (.int .i64 1048576)))),none⟩])
 (.seq (.ops [⟨some 9,.mov (.s 0),none⟩,⟨some 10,.mov (.s 3),none⟩,⟨some 11,.call 122 [(.s 9),(.s 10)],none⟩,⟨some 3,.mov (.s 11),none⟩])
 (.seq (.seq (.ops [⟨some 12,.mov (.s 3),none⟩,⟨some 13,.bin .lss (.s 12) (.k (.u (.a (.int .i64 0)))),none⟩])
 (.cond (.s 13)
  (.seq (.ops [⟨some 2,.mov (.k (.u (.a (.bool true)))),none⟩])
  (.ret))
  (.skip)))
 (.seq (.ops [⟨some 15,.mov (.s 0),none⟩,⟨some 16,.call 124 [(.s 15)],none⟩,⟨some 17,.call 123 [(.s 16)],none⟩,⟨some 14,.mov (.s 17),none⟩,⟨some 18,.ext (.s 14) 0,none⟩,⟨some 19,.ext (.s 14) 1,none⟩,⟨some 4,.mov (.s 18),none⟩,⟨some 5,.mov (.s 19),none⟩])
 (.seq (.ops [⟨some 20,.mov (.s 0),none⟩,⟨some 21,.call 124 [(.s 20)],none⟩,⟨some 6,.mov (.s 21),none⟩])
 (.seq (.ops [⟨some 23,.mov (.s 6),none⟩,⟨some 24,.call 125 [(.s 23)],none⟩,⟨some 22,.mov (.s 24),none⟩,⟨some 25,.ext (.s 22) 0,none⟩,⟨some 26,.ext (.s 22) 1,none⟩,⟨some 7,.mov (.s 25),none⟩,⟨some 8,.mov (.s 26),none⟩])
 (.seq (.seq (.ops [⟨some 27,.mov (.s 7),none⟩,⟨some 28,.mov (.s 4),none⟩,⟨some 29,.bin .neq (.s 27) (.s 28),none⟩,⟨some 30,.mov (.s 29),none⟩,⟨some 31,.mov (.s 8),some (30,false)⟩,⟨some 32,.mov (.s 5),some (30,false)⟩,⟨some 33,.beq true (.s 31) (.s 32),some (30,false)⟩,⟨some 34,.pick (.s 30) (.k (.u (.a (.bool true)))) (.s 33),none⟩])
 (.cond (.s 34)
  (.seq (.ops [⟨some 2,.mov (.k (.u (.a (.bool false)))),none⟩])
  (.ret))
  (.skip)))
 (.seq (.seq (.ops [⟨some 35,.mov (.s 6),none⟩,⟨some 36,.mov (.s 0),none⟩,⟨some 37,.call 124 [(.s 36)],none⟩,⟨some 38,.call 126 [(.s 35),(.s 37)],none⟩,⟨some 39,.not (.s 38),none⟩])
 (.cond (.s 39)
  (.seq (.ops [⟨some 2,.mov (.k (.u (.a (.bool false)))),none⟩])
  (.ret))
  (.skip)))
 (.seq (.ops [⟨some 2,.mov (.k (.u (.a (.bool true)))),none⟩])
 (.ret)))))))))))⟩

def laws_FnExactNextProper : Fn := ⟨[.t 6],
 (.seq (.ops [⟨some 6,.mov (.k (.u (.a (.bool false)))),none⟩])
 (.seq (.seq (.ops [⟨some 11,.mov (.s 0),none⟩,⟨some 12,.lens (.s 11),none⟩,⟨some 13,.bin .gtr (.s 12) (.k (.u (.a (.int .i64 1048576)))),none⟩])
 (.cond (.s 13)
  (.seq (.ops [⟨some 6,.mov (.k (.u (.a (.bool true)))),none⟩])
  (.ret))
  (.skip)))
 (.seq (.ops [⟨some 15,.mov (.s 0),none⟩,⟨some 16,.mov (.s 1),none⟩,⟨some 17,.mov (.s 2),none⟩,⟨some 18,.call 127 [(.s 15),(.s 16),(.s 17)],none⟩,⟨some 14,.mov (.s 18),none⟩,⟨some 19,.ext (.s 14) 0,none⟩,⟨some 20,.ext (.s 14) 1,none⟩,⟨some 7,.mov (.s 19),none⟩,⟨some 8,.mov (.s 20),none⟩])
 (.seq (.ops [⟨some 22,.mov (.s 0),none⟩,⟨some 23,.mov (.s 1),none⟩,⟨some 24,.mov (.s 2),none⟩,⟨some 25,.call 128 [(.s 22),(.s 23),(.s 24)],none⟩,⟨some 21,.mov (.s 25),none⟩,⟨some 26,.ext (.s 21) 0,none⟩,⟨some 27,.ext (.s 21) 1,none⟩,⟨some 9,.mov (.s 26),none⟩,⟨some 10,.mov (.s 27),none⟩])
 (.seq (.seq (.ops [⟨some 28,.mov (.s 9),none⟩,⟨some 29,.mov (.s 7),none⟩,⟨some 30,.bin .neq (.s 28) (.s 29),none⟩,⟨some 31,.mov (.s 30),none⟩,⟨some 32,.mov (.s 10),some (31,false)⟩,⟨some 33,.mov (.s 8),some (31,false)⟩,⟨some 34,.beq true (.s 32) (.s 33),some (31,false)⟩,⟨some 35,.pick (.s 31) (.k (.u (.a (.bool true)))) (.s 34),none⟩])
 (.cond (.s 35)
  (.seq (.ops [⟨some 6,.mov (.k (.u (.a (.bool false)))),none⟩])
  (.ret))
  (.skip)))
 (.seq (.ops [⟨some 6,.mov (.k (.u (.a (.bool true)))),none⟩])
 (.ret)))))))⟩

def laws_FnExactFirstListed : Fn := ⟨[.t 2],
 (.seq (.ops [⟨some 2,.mov (.k (.u (.a (.bool false)))),none⟩])
 (.seq (.ops [⟨some 3,.mov (.k (.u (.a (.int .i64 1048576)))),none⟩])
 (.seq (.ops [⟨some 9,.mov (.s 0),none⟩,⟨some 10,.mov (.s 3),none⟩,⟨some 11,.call 122 [(.s 9),(.s 10)],none⟩,⟨some 3,.mov (.s 11),none⟩])
 (.seq (.seq (.ops [⟨some 12,.mov (.s 3),none⟩,⟨some 13,.bin .lss (.s 12) (.k (.u (.a (.int .i64 0)))),none⟩])
 (.cond (.s 13)
  (.seq (.ops [⟨some 2,.mov (.k (.u (.a (.bool true)))),none⟩])
  (.ret))
  (.skip)))
 (.seq (.ops [⟨some 15,.mov (.s 0),none⟩,⟨some 16,.call 124 [(.s 15)],none⟩,⟨some 17,.call 157 [(.s 16)],none⟩,⟨some 14,.mov (.s 17),none⟩,⟨some 18,.ext (.s 14) 0,none⟩,⟨some 19,.ext (.s 14) 1,none⟩,⟨some 4,.mov (.s 18),none⟩,⟨some 5,.mov (.s 19),none⟩])
 (.seq (.ops [⟨some 20,.mov (.s 0),none⟩,⟨some 21,.call 124 [(.s 20)],none⟩,⟨some 6,.mov (.s 21),none⟩])
 (.seq (.ops [⟨some 23,.mov (.s 6),none⟩,⟨some 24,.call 158 [(.s 23)],none⟩,⟨some 22,.mov (.s 24),none⟩,⟨some 25,.ext (.s 22) 0,none⟩,⟨some 26,.ext (.s 22) 1,none⟩,⟨some 7,.mov (.s 25),none⟩,⟨some 8,.mov (.s 26),none⟩])
 (.seq (.seq (.ops [⟨some 27,.mov (.s 7),none⟩,⟨some 28,.mov (.s 4),none⟩,⟨some 29,.bin .neq (.s 27) (.s 28),none⟩,⟨some 30,.mov (.s 29),none⟩,⟨some 31,.mov (.s 8),some (30,false)⟩,⟨some 32,.mov (.s 5),some (30,false)⟩,⟨some 33,.beq true (.s 31) (.s 32),some (30,false)⟩,⟨some 34,.pick (.s 30) (.k (.u (.a (.bool true)))) (.s 33),none⟩])
 (.cond (.s 34)
  (.seq (.ops [⟨some 2,.mov (.k (.u (.a (.bool false)))),none⟩])
  (.ret))
  (.skip)))
 (.seq (.seq (.ops [⟨some 35,.mov (.s 6),none⟩,⟨some 36,.mov (.s 0),none⟩,⟨some 37,.call 124 [(.s 36)],none⟩,⟨some 38,.call 126 [(.s 35),(.s 37)],none⟩,⟨some 39,.not (.s 38),none⟩])
 (.cond (.s 39)
  (.seq (.ops [⟨some 2,.mov (.k (.u (.a (.bool false)))),none⟩])
  (.ret))
  (.skip)))
 (.seq (.ops [⟨some 2,.mov (.k (.u (.a (.bool true)))),none⟩])
 (.ret)))))))))))⟩

def spec_FirstDesk : Fn := ⟨[.c 0 true 4],
 (.seq (.ops [⟨some 0,.alloc [(.str []),.nils,.nils,.nils],none⟩])
 (.seq (.ops [⟨some 1,.lit [(.int .i64 0)] 4 [(0,1,(.k (.u (.a (.int .i64 5))))),(1,1,(.k (.u (.a (.int .i64 4))))),(2,1,(.k (.u (.a (.int .i64 3))))),(3,1,(.k (.u (.a (.int .i64 3)))))],none⟩,⟨some 2,.lit [(.int .i64 0)] 5 [(0,1,(.k (.u (.a (.int .i64 2))))),(1,1,(.k (.u (.a (.int .i64 5))))),(2,1,(.k (.u (.a (.int .i64 3))))),(3,1,(.k (.u (.a (.int .i64 3))))),(4,1,(.k (.u (.a (.int .i64 1)))))],none⟩,⟨some 3,.lit [(.str [])] 2 [(0,1,(.k (.u (.a (.str [97,97,98]))))),(1,1,(.k (.u (.a (.str [97,46,98])))))],none⟩,⟨some 4,.build [(.str []),.nils,.nils,.nils] [(0,1,(.k (.u (.a (.str [97,98,99,98,97]))))),(1,1,(.s 1)),(2,1,(.s 2)),(3,1,(.s 3))],none⟩,⟨none,.store 4 (.s 0) (.s 4),none⟩])
 (.ret)))⟩

def impl_FirstDesk : Fn := ⟨[.c 0 true 4],
 (.seq (.ops [⟨some 0,.alloc [(.str []),.nils,.nils,.nils],none⟩])
 (.seq (.ops [⟨some 1,.lit [(.int .i64 0)] 4 [(0,1,(.k (.u (.a (.int .i64 5))))),(1,1,(.k (.u (.a (.int .i64 4))))),(2,1,(.k (.u (.a (.int .i64 3))))),(3,1,(.k (.u (.a (.int .i64 3)))))],none⟩,⟨some 2,.lit [(.int .i64 0)] 5 [(0,1,(.k (.u (.a (.int .i64 2))))),(1,1,(.k (.u (.a (.int .i64 5))))),(2,1,(.k (.u (.a (.int .i64 3))))),(3,1,(.k (.u (.a (.int .i64 3))))),(4,1,(.k (.u (.a (.int .i64 1)))))],none⟩,⟨some 3,.lit [(.str [])] 2 [(0,1,(.k (.u (.a (.str [97,97,98]))))),(1,1,(.k (.u (.a (.str [97,46,98])))))],none⟩,⟨some 4,.build [(.str []),.nils,.nils,.nils] [(0,1,(.k (.u (.a (.str [97,98,99,98,97]))))),(1,1,(.s 1)),(2,1,(.s 2)),(3,1,(.s 3))],none⟩,⟨none,.store 4 (.s 0) (.s 4),none⟩])
 (.ret)))⟩

def laws_eqDesk : Fn := ⟨[.t 4],
 (.seq (.ops [⟨some 2,.box (.s 0),none⟩,⟨some 3,.box (.s 1),none⟩,⟨some 4,.mov (.k (.u (.a (.bool false)))),none⟩])
 (.seq (.seq (.ops [⟨some 5,.fadr 0 (.s 2),none⟩,⟨some 6,.load false 1 (.s 5),none⟩,⟨some 7,.fadr 0 (.s 3),none⟩,⟨some 8,.load false 1 (.s 7),none⟩,⟨some 9,.bin .neq (.s 6) (.s 8),none⟩])
 (.cond (.s 9)
  (.seq (.ops [⟨some 4,.mov (.k (.u (.a (.bool false)))),none⟩])
  (.ret))
  (.skip)))
 (.seq (.seq (.ops [⟨some 10,.fadr 1 (.s 2),none⟩,⟨some 11,.load false 1 (.s 10),none⟩,⟨some 12,.fadr 1 (.s 3),none⟩,⟨some 13,.load false 1 (.s 12),none⟩,⟨some 14,.call 270 [(.s 11),(.s 13)],none⟩,⟨some 15,.not (.s 14),none⟩])
 (.cond (.s 15)
  (.seq (.ops [⟨some 4,.mov (.k (.u (.a (.bool false)))),none⟩])
  (.ret))
  (.skip)))
 (.seq (.seq (.ops [⟨some 16,.fadr 2 (.s 2),none⟩,⟨some 17,.load false 1 (.s 16),none⟩,⟨some 18,.fadr 2 (.s 3),none⟩,⟨some 19,.load false 1 (.s 18),none⟩,⟨some 20,.call 270 [(.s 17),(.s 19)],none⟩,⟨some 21,.not (.s 20),none⟩])
 (.cond (.s 21)
  (.seq (.ops [⟨some 4,.mov (.k (.u (.a (.bool false)))),none⟩])
  (.ret))
  (.skip)))
 (.seq (.seq (.ops [⟨some 22,.fadr 3 (.s 2),none⟩,⟨some 23,.load false 1 (.s 22),none⟩,⟨some 24,.fadr 3 (.s 3),none⟩,⟨some 25,.load false 1 (.s 24),none⟩,⟨some 26,.call 126 [(.s 23),(.s 25)],none⟩,⟨some 27,.not (.s 26),none⟩])
 (.cond (.s 27)
  (.seq (.ops [⟨some 4,.mov (.k (.u (.a (.bool false)))),none⟩])
  (.ret))
  (.skip)))
 (.seq (.ops [⟨some 4,.mov (.k (.u (.a (.bool true)))),none⟩])
 (.ret)))))))⟩

def laws_markDesk : Fn := ⟨[.t 4],
 (.seq (.ops [⟨some 2,.box (.s 0),none⟩,⟨some 4,.mov (.k (.u (.a (.int .i64 0)))),none⟩])
 (.seq (.ops [⟨some 5,.fadr 1 (.s 2),none⟩,⟨some 6,.load false 1 (.s 5),none⟩,⟨some 7,.mov (.s 1),none⟩,⟨some 8,.call 272 [(.s 6),(.s 7)],none⟩,⟨some 1,.mov (.s 8),none⟩])
 (.seq (.ops [⟨some 9,.fadr 2 (.s 2),none⟩,⟨some 10,.load false 1 (.s 9),none⟩,⟨some 11,.mov (.s 1),none⟩,⟨some 12,.call 272 [(.s 10),(.s 11)],none⟩,⟨some 1,.mov (.s 12),none⟩])
 (.seq (.ops [⟨some 13,.fadr 3 (.s 2),none⟩,⟨some 14,.load false 1 (.s 13),none⟩,⟨some 15,.mov (.s 1),none⟩,⟨some 16,.call 276 [(.s 14),(.s 15)],none⟩,⟨some 1,.mov (.s 16),none⟩])
 (.seq (.ops [⟨some 17,.mov (.s 1),none⟩,⟨some 4,.mov (.s 17),none⟩])
 (.ret))))))⟩

def laws_heldDesk : Fn := ⟨[.t 4],
 (.seq (.ops [⟨some 2,.box (.s 0),none⟩,⟨some 4,.mov (.k (.u (.a (.int .i64 0)))),none⟩])
 (.seq (.ops [⟨some 5,.fadr 1 (.s 2),none⟩,⟨some 6,.load false 1 (.s 5),none⟩,⟨some 7,.mov (.s 1),none⟩,⟨some 8,.call 273 [(.s 6),(.s 7)],none⟩,⟨some 1,.mov (.s 8),none⟩])
 (.seq (.seq (.ops [⟨some 9,.mov (.s 1),none⟩,⟨some 10,.bin .lss (.s 9) (.k (.u (.a (.int .i64 0)))),none⟩])
 (.cond (.s 10)
  (.seq (.ops [⟨some 4,.mov (.k (.u (.a (.int .i64 (-1))))),none⟩])
  (.ret))
  (.skip)))
 (.seq (.ops [⟨some 11,.fadr 2 (.s 2),none⟩,⟨some 12,.load false 1 (.s 11),none⟩,⟨some 13,.mov (.s 1),none⟩,⟨some 14,.call 273 [(.s 12),(.s 13)],none⟩,⟨some 1,.mov (.s 14),none⟩])
 (.seq (.seq (.ops [⟨some 15,.mov (.s 1),none⟩,⟨some 16,.bin .lss (.s 15) (.k (.u (.a (.int .i64 0)))),none⟩])
 (.cond (.s 16)
  (.seq (.ops [⟨some 4,.mov (.k (.u (.a (.int .i64 (-1))))),none⟩])
  (.ret))
  (.skip)))
 (.seq (.ops [⟨some 17,.fadr 3 (.s 2),none⟩,⟨some 18,.load false 1 (.s 17),none⟩,⟨some 19,.mov (.s 1),none⟩,⟨some 20,.call 277 [(.s 18),(.s 19)],none⟩,⟨some 1,.mov (.s 20),none⟩])
 (.seq (.seq (.ops [⟨some 21,.mov (.s 1),none⟩,⟨some 22,.bin .lss (.s 21) (.k (.u (.a (.int .i64 0)))),none⟩])
 (.cond (.s 22)
  (.seq (.ops [⟨some 4,.mov (.k (.u (.a (.int .i64 (-1))))),none⟩])
  (.ret))
  (.skip)))
 (.seq (.ops [⟨some 23,.mov (.s 1),none⟩,⟨some 4,.mov (.s 23),none⟩])
 (.ret)))))))))⟩

def spec_CountProper : Fn := ⟨[.t 6,.t 7],
 (.seq (.ops [⟨some 6,.mov (.k (.u (.a (.int .i64 0)))),none⟩,⟨some 7,.mov (.k (.u (.a (.bool false)))),none⟩])
 (.seq (.seq (.ops [⟨some 8,.mov (.s 0),none⟩,⟨some 9,.mov (.s 1),none⟩,⟨some 10,.mov (.s 2),none⟩,⟨some 11,.call 536 [(.s 8),(.s 9),(.s 10)],none⟩,⟨some 12,.not (.s 11),none⟩])
 (.cond (.s 12)
  (.seq (.ops [⟨some 6,.mov (.k (.u (.a (.int .i64 0)))),none⟩,⟨some 7,.mov (.k (.u (.a (.bool false)))),none⟩])
  (.ret))
  (.skip)))
 (.seq (.ops [⟨some 13,.mov (.s 0),none⟩,⟨some 14,.call 538 [(.s 13)],none⟩,⟨some 15,.mov (.s 1),none⟩,⟨some 16,.mov (.s 2),none⟩,⟨some 17,.call 537 [(.s 14),(.s 15),(.s 16),(.k (.u (.a (.int .i64 0))))],none⟩,⟨some 6,.mov (.s 17),none⟩,⟨some 7,.mov (.k (.u (.a (.bool true)))),none⟩])
 (.ret))))⟩

def impl_CountProper : Fn := ⟨[.t 6,.t 7],
 (.seq (.ops [⟨some 6,.mov (.k (.u (.a (.int .i64 0)))),none⟩,⟨some 7,.mov (.k (.u (.a (.bool false)))),none⟩])
 (.seq (.seq (.ops [⟨some 8,.mov (.s 0),none⟩,⟨some 9,.mov (.s 1),none⟩,⟨some 10,.mov (.s 2),none⟩,⟨some 11,.call 539 [(.s 8),(.s 9),(.s 10)],none⟩,⟨some 12,.not (.s 11),none⟩])
 (.cond (.s 12)
  (.seq (.ops [⟨some 6,.mov (.k (.u (.a (.int .i64 0)))),none⟩,⟨some 7,.mov (.k (.u (.a (.bool false)))),none⟩])
  (.ret))
  (.skip)))
 (.seq (.ops [⟨some 13,.mov (.s 0),none⟩,⟨some 14,.mov (.s 1),none⟩,⟨some 15,.call 540 [(.s 13),(.s 14)],none⟩,⟨some 16,.mov (.s 2),none⟩,⟨some 17,.call 541 [(.s 15),(.s 16)],none⟩,⟨some 6,.mov (.s 17),none⟩,⟨some 7,.mov (.k (.u (.a (.bool true)))),none⟩])
 (.ret))))⟩

def spec_CountMirrored : Fn := ⟨[.t 4,.t 5],
 (.seq (.ops [⟨some 4,.mov (.k (.u (.a (.int .i64 0)))),none⟩,⟨some 5,.mov (.k (.u (.a (.bool false)))),none⟩])
 (.seq (.seq (.ops [⟨some 7,.mov (.s 0),none⟩,⟨some 8,.mov (.s 1),none⟩,⟨some 9,.call 536 [(.s 7),(.s 8),(.k (.u (.a (.bool false))))],none⟩,⟨some 10,.not (.s 9),none⟩])
 (.cond (.s 10)
  (.seq (.ops [⟨some 4,.mov (.k (.u (.a (.int .i64 0)))),none⟩,⟨some 5,.mov (.k (.u (.a (.bool false)))),none⟩])
  (.ret))
  (.skip)))
 (.seq (.ops [⟨some 6,.mov (.k (.u (.a (.int .i64 0)))),none⟩])
 (.seq (.seq (.ops [⟨some 11,.mov (.s 0),none⟩,⟨some 12,.bin .rem (.s 11) (.k (.u (.a (.int .i64 2)))),none⟩,⟨some 13,.bin .eql (.s 12) (.k (.u (.a (.int .i64 1)))),none⟩])
 (.cond (.s 13)
  (.ops [⟨some 14,.mov (.s 0),none⟩,⟨some 15,.bin .add (.s 14) (.k (.u (.a (.int .i64 1)))),none⟩,⟨some 16,.bin .quo (.s 15) (.k (.u (.a (.int .i64 2)))),none⟩,⟨some 17,.call 538 [(.s 16)],none⟩,⟨some 18,.mov (.s 1),none⟩,⟨some 19,.call 537 [(.s 17),(.s 18),(.k (.u (.a (.bool false)))),(.k (.u (.a (.int .i64 0))))],none⟩,⟨some 6,.mov (.s 19),none⟩])
  (.skip)))
 (.seq (.ops [⟨some 20,.mov (.s 0),none⟩,⟨some 21,.call 538 [(.s 20)],none⟩,⟨some 22,.mov (.s 1),none⟩,⟨some 23,.call 537 [(.s 21),(.s 22),(.k (.u (.a (.bool false)))),(.k (.u (.a (.int .i64 0))))],none⟩,⟨some 24,.mov (.s 6),none⟩,⟨some 25,.bin .add (.s 23) (.s 24),none⟩,⟨some 26,.bin .quo (.s 25) (.k (.u (.a (.int .i64 2)))),none⟩,⟨some 4,.mov (.s 26),none⟩,⟨some 5,.mov (.k (.u (.a (.bool true)))),none⟩])
 (.ret))))))⟩

def impl_CountMirrored : Fn := ⟨[.t 4,.t 5],
 (.seq (.ops [⟨some 4,.mov (.k (.u (.a (.int .i64 0)))),none⟩,⟨some 5,.mov (.k (.u (.a (.bool false)))),none⟩])
 (.seq (.seq (.ops [⟨some 7,.mov (.s 0),none⟩,⟨some 8,.mov (.s 1),none⟩,⟨some 9,.call 539 [(.s 7),(.s 8),(.k (.u (.a (.bool false))))],none⟩,⟨some 10,.not (.s 9),none⟩])
 (.cond (.s 10)
  (.seq (.ops [⟨some 4,.mov (.k (.u (.a (.int .i64 0)))),none⟩,⟨some 5,.mov (.k (.u (.a (.bool false)))),none⟩])
  (.ret))
  (.skip)))
 (.seq (.ops [⟨some 6,.mov (.k (.u (.a (.int .i64 0)))),none⟩])
 (.seq (.seq (.ops [⟨some 11,.mov (.s 0),none⟩,⟨some 12,.bin .rem (.s 11) (.k (.u (.a (.int .i64 2)))),none⟩,⟨some 13,.bin .eql (.s 12) (.k (.u (.a (.int .i64 1)))),none⟩])
 (.cond (.s 13)
  (.ops [⟨some 14,.mov (.s 0),none⟩,⟨some 15,.bin .add (.s 14) (.k (.u (.a (.int .i64 1)))),none⟩,⟨some 16,.bin .quo (.s 15) (.k (.u (.a (.int .i64 2)))),none⟩,⟨some 17,.mov (.s 1),none⟩,⟨some 18,.call 540 [(.s 16),(.s 17)],none⟩,⟨some 19,.call 541 [(.s 18),(.k (.u (.a (.bool false))))],none⟩,⟨some 6,.mov (.s 19),none⟩])
  (.skip)))
 (.seq (.ops [⟨some 20,.mov (.s 0),none⟩,⟨some 21,.mov (.s 1),none⟩,⟨some 22,.call 540 [(.s 20),(.s 21)],none⟩,⟨some 23,.call 541 [(.s 22),(.k (.u (.a (.bool false))))],none⟩,⟨some 24,.mov (.s 6),none⟩,⟨some 25,.bin .add (.s 23) (.s 24),none⟩,⟨some 26,.bin .quo (.s 25) (.k (.u (.a (.int .i64 2)))),none⟩,⟨some 4,.mov (.s 26),none⟩,⟨some 5,.mov (.k (.u (.a (.bool true)))),none⟩])
 (.ret))))))⟩

def laws_szDesk : Fn := ⟨[.t 4],
 (.seq (.ops [⟨some 2,.box (.s 0),none⟩,⟨some 4,.mov (.k (.u (.a (.int .i64 0)))),none⟩])
 (.seq (.ops [⟨some 5,.mov (.s 1),none⟩,⟨some 6,.fadr 0 (.s 2),none⟩,⟨some 7,.load false 1 (.s 6),none⟩,⟨some 8,.lens (.s 7),none⟩,⟨some 9,.bin .sub (.s 5) (.s 8),none⟩,⟨some 1,.mov (.s 9),none⟩])
 (.seq (.seq (.ops [⟨some 10,.mov (.s 1),none⟩,⟨some 11,.bin .lss (.s 10) (.k (.u (.a (.int .i64 0)))),none⟩])
 (.cond (.s 11)
  (.seq (.ops [⟨some 4,.mov (.k (.u (.a (.int .i64 (-1))))),none⟩])
  (.ret))
  (.skip)))
 (.seq (.ops [⟨some 12,.fadr 1 (.s 2),none⟩,⟨some 13,.load false 1 (.s 12),none⟩,⟨some 14,.mov (.s 1),none⟩,⟨some 15,.call 542 [(.s 13),(.s 14)],none⟩,⟨some 1,.mov (.s 15),none⟩])
 (.seq (.seq (.ops [⟨some 16,.mov (.s 1),none⟩,⟨some 17,.bin .lss (.s 16) (.k (.u (.a (.int .i64 0)))),none⟩])
 (.cond (.s 17)
  (.seq (.ops [⟨some 4,.mov (.k (.u (.a (.int .i64 (-1))))),none⟩])
  (.ret))
  (.skip)))
 (.seq (.ops [⟨some 18,.fadr 2 (.s 2),none⟩,⟨some 19,.load false 1 (.s 18),none⟩,⟨some 20,.mov (.s 1),none⟩,⟨some 21,.call 542 [(.s 19),(.s 20)],none⟩,⟨some 1,.mov (.s 21),none⟩])
 (.seq (.seq (.ops [⟨some 22,.mov (.s 1),none⟩,⟨some 23,.bin .lss (.s 22) (.k (.u (.a (.int .i64 0)))),none⟩])
 (.cond (.s 23)
  (.seq (.ops [⟨some 4,.mov (.k (.u (.a (.int .i64 (-1))))),none⟩])
  (.ret))
  (.skip)))
 (.seq (.ops [⟨some 24,.fadr 3 (.s 2),none⟩,⟨some 25,.load false 1 (.s 24),none⟩,⟨some 26,.mov (.s 1),none⟩,⟨some 27,.call 122 [(.s 25),(.s 26)],none⟩,⟨some 1,.mov (.s 27),none⟩])
 (.seq (.seq (.ops [⟨some 28,.mov (.s 1),none⟩,⟨some 29,.bin .lss (.s 28) (.k (.u (.a (.int .i64 0)))),none⟩])
 (.cond (.s 29)
  (.seq (.ops [⟨some 4,.mov (.k (.u (.a (.int .i64 (-1))))),none⟩])
  (.ret))
  (.skip)))
 (.seq (.ops [⟨some 30,.mov (.s 1),none⟩,⟨some 4,.mov (.s 30),none⟩])
 (.ret)))))))))))⟩

def spec_IsDesk : Fn := ⟨[.t 2],
 (.seq (.ops [⟨some 1,.box (.s 0),none⟩,⟨some 2,.mov (.k (.u (.a (.bool false)))),none⟩])
 (.seq (.ops [⟨some 3,.load true 4 (.s 1),none⟩,⟨some 4,.call 543 [(.s 3)],none⟩,⟨some 2,.mov (.s 4),none⟩])
 (.ret)))⟩

def laws_toDesk : Fn := ⟨[.c 2 true 4],
 (.seq (.ops [⟨some 1,.box (.s 0),none⟩,⟨some 2,.alloc [(.str []),.nils,.nils,.nils],none⟩])
 (.seq (.ops [⟨some 3,.alloc [(.str []),.nils,.nils,.nils],none⟩])
 (.seq (.ops [⟨some 4,.fadr 0 (.s 1),none⟩,⟨some 5,.load false 1 (.s 4),none⟩,⟨some 6,.fadr 0 (.s 3),none⟩,⟨none,.store 1 (.s 6) (.s 5),none⟩])
 (.seq (.ops [⟨some 7,.fadr 1 (.s 1),none⟩,⟨some 8,.load false 1 (.s 7),none⟩,⟨some 9,.call 544 [(.s 8)],none⟩,⟨some 10,.fadr 1 (.s 3),none⟩,⟨none,.store 1 (.s 10) (.s 9),none⟩])
 (.seq (.ops [⟨some 11,.fadr 2 (.s 1),none⟩,⟨some 12,.load false 1 (.s 11),none⟩,⟨some 13,.call 544 [(.s 12)],none⟩,⟨some 14,.fadr 2 (.s 3),none⟩,⟨none,.store 1 (.s 14) (.s 13),none⟩])
 (.seq (.ops [⟨some 15,.fadr 3 (.s 1),none⟩,⟨some 16,.load false 1 (.s 15),none⟩,⟨some 17,.call 124 [(.s 16)],none⟩,⟨some 18,.fadr 3 (.s 3),none⟩,⟨none,.store 1 (.s 18) (.s 17),none⟩])
 (.seq (.ops [⟨some 19,.load true 4 (.s 3),none⟩,⟨none,.store 4 (.s 2) (.s 19),none⟩])
 (.ret))))))))⟩

def impl_IsDesk : Fn := ⟨[.t 2],
 (.seq (.ops [⟨some 1,.box (.s 0),none⟩,⟨some 2,.mov (.k (.u (.a (.bool false)))),none⟩])
 (.seq (.ops [⟨some 3,.fadr 0 (.s 1),none⟩,⟨some 4,.load false 1 (.s 3),none⟩,⟨some 5,.call 315 [(.s 4)],none⟩,⟨some 6,.mov (.s 5),none⟩,⟨some 7,.fadr 1 (.s 1),some (6,true)⟩,⟨some 8,.load false 1 (.s 7),some (6,true)⟩,⟨some 9,.call 507 [(.s 8)],some (6,true)⟩,⟨some 10,.pick (.s 6) (.s 9) (.k (.u (.a (.bool false)))),none⟩,⟨some 11,.mov (.s 10),none⟩,⟨some 12,.fadr 2 (.s 1),some (11,true)⟩,⟨some 13,.load false 1 (.s 12),some (11,true)⟩,⟨some 14,.call 417 [(.s 13)],some (11,true)⟩,⟨some 15,.pick (.s 11) (.s 14) (.k (.u (.a (.bool false)))),none⟩,⟨some 16,.mov (.s 15),none⟩,⟨some 17,.fadr 3 (.s 1),some (16,true)⟩,⟨some 18,.load false 1 (.s 17),some (16,true)⟩,⟨some 19,.call 388 [(.s 18)],some (16,true)⟩,⟨some 20,.pick (.s 16) (.s 19) (.k (.u (.a (.bool false)))),none⟩,⟨some 2,.mov (.s 20),none⟩])
 (.ret)))⟩

def spec_CountAllTints_L0 : IC :=
 (.seq (.seq (.ops [⟨some 13,.mov (.s 7),none⟩,⟨some 14,.mov (.s 1),none⟩,⟨some 15,.bin .lss (.s 13) (.s 14),none⟩])
   (.cond (.s 15)
    (.skip)
    (.exit 0)))
   (.seq (.block 1
    (.seq (.ops [⟨some 18,.mov (.s 1),none⟩,⟨some 19,.mov (.s 7),none⟩,⟨some 20,.call 545 [(.s 18),(.s 19)],none⟩,⟨some 21,.mov (.s 0),none⟩,⟨some 22,.call 538 [(.s 21)],none⟩,⟨some 23,.mov (.s 1),none⟩,⟨some 24,.mov (.s 7),none⟩,⟨some 25,.bin .sub (.s 23) (.s 24),none⟩,⟨some 26,.call 537 [(.s 22),(.s 25),(.k (.u (.a (.bool false)))),(.k (.u (.a (.int .i64 0))))],none⟩,⟨some 27,.bin .mul (.s 20) (.s 26),none⟩,⟨some 8,.mov (.s 27),none⟩])
    (.seq (.seq (.ops [⟨some 28,.mov (.s 7),none⟩,⟨some 29,.bin .rem (.s 28) (.k (.u (.a (.int .i64 2)))),none⟩,⟨some 30,.bin .eql (.s 29) (.k (.u (.a (.int .i64 1)))),none⟩])
    (.cond (.s 30)
     (.ops [⟨some 31,.mov (.s 8),none⟩,⟨some 32,.neg (.s 31),none⟩,⟨some 8,.mov (.s 32),none⟩])
     (.skip)))
    (.ops [⟨some 33,.mov (.s 6),none⟩,⟨some 34,.mov (.s 8),none⟩,⟨some 35,.bin .add (.s 33) (.s 34),none⟩,⟨some 6,.mov (.s 35),none⟩]))))
   (.ops [⟨some 16,.mov (.s 7),none⟩,⟨some 17,.bin .add (.s 16) (.k (.u (.a (.int .i64 1)))),none⟩,⟨some 7,.mov (.s 17),none⟩])))
def spec_CountAllTints : Fn := ⟨[.t 4,.t 5],
 (.seq (.ops [⟨some 4,.mov (.k (.u (.a (.int .i64 0)))),none⟩,⟨some 5,.mov (.k (.u (.a (.bool false)))),none⟩])
 (.seq (.seq (.ops [⟨some 9,.mov (.s 0),none⟩,⟨some 10,.mov (.s 1),none⟩,⟨some 11,.call 536 [(.s 9),(.s 10),(.k (.u (.a (.bool false))))],none⟩,⟨some 12,.not (.s 11),none⟩])
 (.cond (.s 12)
  (.seq (.ops [⟨some 4,.mov (.k (.u (.a (.int .i64 0)))),none⟩,⟨some 5,.mov (.k (.u (.a (.bool false)))),none⟩])
  (.ret))
  (.skip)))
 (.seq (.ops [⟨some 6,.mov (.k (.u (.a (.int .i64 0)))),none⟩])
 (.seq (.seq (.ops [⟨some 7,.mov (.k (.u (.a (.int .i64 0)))),none⟩])
 (.block 0
  (.loop spec_CountAllTints_L0)))
 (.seq (.ops [⟨some 36,.mov (.s 6),none⟩,⟨some 4,.mov (.s 36),none⟩,⟨some 5,.mov (.k (.u (.a (.bool true)))),none⟩])
 (.ret))))))⟩

def impl_CountAllTints_L0 : IC :=
 (.seq (.seq (.ops [⟨some 13,.mov (.s 7),none⟩,⟨some 14,.mov (.s 1),none⟩,⟨some 15,.bin .leq (.s 13) (.s 14),none⟩])
   (.cond (.s 15)
    (.skip)
    (.exit 0)))
   (.seq (.block 1
    (.seq (.ops [⟨some 18,.mov (.s 1),none⟩,⟨some 19,.mov (.s 7),none⟩,⟨some 20,.call 546 [(.s 18),(.s 19)],none⟩,⟨some 21,.mov (.s 0),none⟩,⟨some 22,.mov (.s 7),none⟩,⟨some 23,.call 540 [(.s 21),(.s 22)],none⟩,⟨some 24,.call 541 [(.s 23),(.k (.u (.a (.bool false))))],none⟩,⟨some 25,.bin .mul (.s 20) (.s 24),none⟩,⟨some 8,.mov (.s 25),none⟩])
    (.seq (.seq (.ops [⟨some 26,.mov (.s 1),none⟩,⟨some 27,.mov (.s 7),none⟩,⟨some 28,.bin .sub (.s 26) (.s 27),none⟩,⟨some 29,.bin .rem (.s 28) (.k (.u (.a (.int .i64 2)))),none⟩,⟨some 30,.bin .eql (.s 29) (.k (.u (.a (.int .i64 1)))),none⟩])
    (.cond (.s 30)
     (.ops [⟨some 31,.mov (.s 8),none⟩,⟨some 32,.neg (.s 31),none⟩,⟨some 8,.mov (.s 32),none⟩])
     (.skip)))
    (.ops [⟨some 33,.mov (.s 6),none⟩,⟨some 34,.mov (.s 8),none⟩,⟨some 35,.bin .add (.s 33) (.s 34),none⟩,⟨some 6,.mov (.s 35),none⟩]))))
   (.ops [⟨some 16,.mov (.s 7),none⟩,⟨some 17,.bin .add (.s 16) (.k (.u (.a (.int .i64 1)))),none⟩,⟨some 7,.mov (.s 17),none⟩])))
def impl_CountAllTints : Fn := ⟨[.t 4,.t 5],
 (.seq (.ops [⟨some 4,.mov (.k (.u (.a (.int .i64 0)))),none⟩,⟨some 5,.mov (.k (.u (.a (.bool false)))),none⟩])
 (.seq (.seq (.ops [⟨some 9,.mov (.s 0),none⟩,⟨some 10,.mov (.s 1),none⟩,⟨some 11,.call 539 [(.s 9),(.s 10),(.k (.u (.a (.bool false))))],none⟩,⟨some 12,.not (.s 11),none⟩])
 (.cond (.s 12)
  (.seq (.ops [⟨some 4,.mov (.k (.u (.a (.int .i64 0)))),none⟩,⟨some 5,.mov (.k (.u (.a (.bool false)))),none⟩])
  (.ret))
  (.skip)))
 (.seq (.ops [⟨some 6,.mov (.k (.u (.a (.int .i64 0)))),none⟩])
 (.seq (.seq (.ops [⟨some 7,.mov (.k (.u (.a (.int .i64 1)))),none⟩])
 (.block 0
  (.loop impl_CountAllTints_L0)))
 (.seq (.ops [⟨some 36,.mov (.s 6),none⟩,⟨some 4,.mov (.s 36),none⟩,⟨some 5,.mov (.k (.u (.a (.bool true)))),none⟩])
 (.ret))))))⟩

def spec_FirstProper : Fn := ⟨[.t 6,.t 7],
 (.seq (.ops [⟨some 6,.mov (.k (.u (.a (.str [])))),none⟩,⟨some 7,.mov (.k (.u (.a (.bool false)))),none⟩])
 (.seq (.ops [⟨some 8,.mov (.s 0),none⟩,⟨some 9,.mov (.s 1),none⟩,⟨some 10,.mov (.s 2),none⟩,⟨some 11,.call 75 [(.s 8),(.s 9),(.s 10),(.k (.u (.a (.int .i64 0))))],none⟩,⟨some 12,.ext (.s 11) 0,none⟩,⟨some 13,.ext (.s 11) 1,none⟩,⟨some 6,.mov (.s 12),none⟩,⟨some 7,.mov (.s 13),none⟩])
 (.ret)))⟩

def impl_FirstProper : Fn := ⟨[.t 6,.t 7],
 (.seq (.ops [⟨some 6,.mov (.k (.u (.a (.str [])))),none⟩,⟨some 7,.mov (.k (.u (.a (.bool false)))),none⟩])
 (.seq (.seq (.ops [⟨some 8,.mov (.s 0),none⟩,⟨some 9,.mov (.s 1),none⟩,⟨some 10,.mov (.s 2),none⟩,⟨some 11,.call 539 [(.s 8),(.s 9),(.s 10)],none⟩,⟨some 12,.not (.s 11),none⟩])
 (.cond (.s 12)
  (.seq (.ops [⟨some 6,.mov (.k (.u (.a (.str [])))),none⟩,⟨some 7,.mov (.k (.u (.a (.bool false)))),none⟩])
  (.ret))
  (.skip)))
 (.seq (.ops [⟨some 13,.mov (.s 0),none⟩,⟨some 14,.mov (.s 1),none⟩,⟨some 15,.call 540 [(.s 13),(.s 14)],none⟩,⟨some 16,.mov (.s 2),none⟩,⟨some 17,.call 547 [(.s 15),(.s 16)],none⟩,⟨some 18,.ext (.s 17) 0,none⟩,⟨some 19,.ext (.s 17) 1,none⟩,⟨some 6,.mov (.s 18),none⟩,⟨some 7,.mov (.s 19),none⟩])
 (.ret))))⟩

def spec_ProperOfRank : Fn := ⟨[.t 8,.t 9],
 (.seq (.ops [⟨some 8,.mov (.k (.u (.a (.str [])))),none⟩,⟨some 9,.mov (.k (.u (.a (.bool false)))),none⟩])
 (.seq (.seq (.ops [⟨some 10,.mov (.s 0),none⟩,⟨some 11,.mov (.s 1),none⟩,⟨some 12,.mov (.s 2),none⟩,⟨some 13,.call 536 [(.s 10),(.s 11),(.s 12)],none⟩,⟨some 14,.not (.s 13),none⟩,⟨some 15,.mov (.s 14),none⟩,⟨some 16,.mov (.s 3),some (15,false)⟩,⟨some 17,.bin .lss (.s 16) (.k (.u (.a (.int .i64 0)))),some (15,false)⟩,⟨some 18,.pick (.s 15) (.k (.u (.a (.bool true)))) (.s 17),none⟩,⟨some 19,.mov (.s 18),none⟩,⟨some 20,.mov (.s 3),some (19,false)⟩,⟨some 21,.mov (.s 0),some (19,false)⟩,⟨some 22,.call 538 [(.s 21)],some (19,false)⟩,⟨some 23,.mov (.s 1),some (19,false)⟩,⟨some 24,.mov (.s 2),some (19,false)⟩,⟨some 25,.call 537 [(.s 22),(.s 23),(.s 24),(.k (.u (.a (.int .i64 0))))],some (19,false)⟩,⟨some 26,.bin .geq (.s 20) (.s 25),some (19,false)⟩,⟨some 27,.pick (.s 19) (.k (.u (.a (.bool true)))) (.s 26),none⟩])
 (.cond (.s 27)
  (.seq (.ops [⟨some 8,.mov (.k (.u (.a (.str [])))),none⟩,⟨some 9,.mov (.k (.u (.a (.bool false)))),none⟩])
  (.ret))
  (.skip)))
 (.seq (.ops [⟨some 28,.mov (.s 0),none⟩,⟨some 29,.call 538 [(.s 28)],none⟩,⟨some 30,.mov (.s 1),none⟩,⟨some 31,.mov (.s 2),none⟩,⟨some 32,.mov (.s 3),none⟩,⟨some 33,.call 555 [(.s 29),(.s 30),(.s 31),(.s 32)],none⟩,⟨some 8,.mov (.s 33),none⟩,⟨some 9,.mov (.k (.u (.a (.bool true)))),none⟩])
 (.ret))))⟩

def impl_ProperOfRank : Fn := ⟨[.t 8,.t 9],
 (.seq (.ops [⟨some 8,.mov (.k (.u (.a (.str [])))),none⟩,⟨some 9,.mov (.k (.u (.a (.bool false)))),none⟩])
 (.seq (.seq (.ops [⟨some 10,.mov (.s 0),none⟩,⟨some 11,.mov (.s 1),none⟩,⟨some 12,.mov (.s 2),none⟩,⟨some 13,.call 539 [(.s 10),(.s 11),(.s 12)],none⟩,⟨some 14,.not (.s 13),none⟩])
 (.cond (.s 14)
  (.seq (.ops [⟨some 8,.mov (.k (.u (.a (.str [])))),none⟩,⟨some 9,.mov (.k (.u (.a (.bool false)))),none⟩])
  (.ret))
  (.skip)))
 (.seq (.ops [⟨some 15,.mov (.s 0),none⟩,⟨some 16,.mov (.s 1),none⟩,⟨some 17,.mov (.s 2),none⟩,⟨some 18,.mov (.s 3),none⟩,⟨some 19,.call 556 [(.s 15),(.s 16),(.s 17),(.s 18)],none⟩,⟨some 20,.ext (.s 19) 0,none⟩,⟨some 21,.ext (.s 19) 1,none⟩,⟨some 8,.mov (.s 20),none⟩,⟨some 9,.mov (.s 21),none⟩])
 (.ret))))⟩

def spec_FewestRepaints : Fn := ⟨[.t 6,.t 7],
 (.seq (.ops [⟨some 6,.mov (.k (.u (.a (.int .i64 0)))),none⟩,⟨some 7,.mov (.k (.u (.a (.bool false)))),none⟩])
 (.seq (.seq (.ops [⟨some 9,.mov (.s 0),none⟩,⟨some 10,.mov (.s 2),none⟩,⟨some 11,.call 557 [(.s 9),(.s 10)],none⟩,⟨some 12,.not (.s 11),none⟩,⟨some 13,.mov (.s 12),none⟩,⟨some 14,.mov (.s 1),some (13,false)⟩,⟨some 15,.call 558 [(.s 14)],some (13,false)⟩,⟨some 16,.not (.s 15),some (13,false)⟩,⟨some 17,.pick (.s 13) (.k (.u (.a (.bool true)))) (.s 16),none⟩])
 (.cond (.s 17)
  (.seq (.ops [⟨some 6,.mov (.k (.u (.a (.int .i64 0)))),none⟩,⟨some 7,.mov (.k (.u (.a (.bool false)))),none⟩])
  (.ret))
  (.skip)))
 (.seq (.ops [⟨some 18,.mov (.s 0),none⟩,⟨some 19,.mov (.s 1),none⟩,⟨some 20,.mov (.s 2),none⟩,⟨some 21,.call 559 [(.s 18),(.k (.u (.a (.str [])))),(.s 19),(.s 20)],none⟩,⟨some 8,.mov (.s 21),none⟩])
 (.seq (.seq (.ops [⟨some 22,.mov (.s 8),none⟩,⟨some 23,.bin .lss (.s 22) (.k (.u (.a (.int .i64 0)))),none⟩])
 (.cond (.s 23)
  (.seq (.ops [⟨some 6,.mov (.k (.u (.a (.int .i64 0)))),none⟩,⟨some 7,.mov (.k (.u (.a (.bool false)))),none⟩])
  (.ret))
  (.skip)))
 (.seq (.ops [⟨some 24,.mov (.s 8),none⟩,⟨some 6,.mov (.s 24),none⟩,⟨some 7,.mov (.k (.u (.a (.bool true)))),none⟩])
 (.ret))))))⟩

def impl_FewestRepaints : Fn := ⟨[.t 6,.t 7],
 (.seq (.ops [⟨some 6,.mov (.k (.u (.a (.int .i64 0)))),none⟩,⟨some 7,.mov (.k (.u (.a (.bool false)))),none⟩])
 (.seq (.seq (.ops [⟨some 10,.mov (.s 0),none⟩,⟨some 11,.mov (.s 1),none⟩,⟨some 12,.mov (.s 2),none⟩,⟨some 13,.call 560 [(.s 10),(.s 11),(.s 12)],none⟩,⟨some 14,.not (.s 13),none⟩])
 (.cond (.s 14)
  (.seq (.ops [⟨some 6,.mov (.k (.u (.a (.int .i64 0)))),none⟩,⟨some 7,.mov (.k (.u (.a (.bool false)))),none⟩])
  (.ret))
  (.skip)))
 (.seq (.ops [⟨some 16,.mov (.s 0),none⟩,⟨some 17,.mov (.s 1),none⟩,⟨some 18,.call 561 [(.s 16),(.s 17)],none⟩,⟨some 19,.mov (.s 2),none⟩,⟨some 20,.call 562 [(.s 18),(.s 19)],none⟩,⟨some 15,.mov (.s 20),none⟩,⟨some 21,.ext (.s 15) 0,none⟩,⟨some 22,.ext (.s 15) 1,none⟩,⟨some 8,.mov (.s 21),none⟩,⟨some 9,.mov (.s 22),none⟩])
 (.seq (.seq (.ops [⟨some 23,.mov (.s 8),none⟩,⟨some 24,.bin .eql (.s 23) (.k (.u (.a (.int .i64 0)))),none⟩])
 (.cond (.s 24)
  (.seq (.ops [⟨some 6,.mov (.k (.u (.a (.int .i64 0)))),none⟩,⟨some 7,.mov (.k (.u (.a (.bool false)))),none⟩])
  (.ret))
  (.skip)))
 (.seq (.ops [⟨some 25,.mov (.s 9),none⟩,⟨some 6,.mov (.s 25),none⟩,⟨some 7,.mov (.k (.u (.a (.bool true)))),none⟩])
 (.ret))))))⟩

def spec_CountFills : Fn := ⟨[.t 6,.t 7],
 (.seq (.ops [⟨some 6,.mov (.k (.u (.a (.int .i64 0)))),none⟩,⟨some 7,.mov (.k (.u (.a (.bool false)))),none⟩])
 (.seq (.seq (.ops [⟨some 8,.mov (.s 0),none⟩,⟨some 9,.mov (.s 2),none⟩,⟨some 10,.call 557 [(.s 8),(.s 9)],none⟩,⟨some 11,.not (.s 10),none⟩,⟨some 12,.mov (.s 11),none⟩,⟨some 13,.mov (.s 1),some (12,false)⟩,⟨some 14,.call 558 [(.s 13)],some (12,false)⟩,⟨some 15,.not (.s 14),some (12,false)⟩,⟨some 16,.pick (.s 12) (.k (.u (.a (.bool true)))) (.s 15),none⟩])
 (.cond (.s 16)
  (.seq (.ops [⟨some 6,.mov (.k (.u (.a (.int .i64 0)))),none⟩,⟨some 7,.mov (.k (.u (.a (.bool false)))),none⟩])
  (.ret))
  (.skip)))
 (.seq (.ops [⟨some 17,.mov (.s 0),none⟩,⟨some 18,.mov (.s 1),none⟩,⟨some 19,.mov (.s 2),none⟩,⟨some 20,.call 563 [(.s 17),(.s 18),(.s 19)],none⟩,⟨some 6,.mov (.s 20),none⟩,⟨some 7,.mov (.k (.u (.a (.bool true)))),none⟩])
 (.ret))))⟩

def impl_CountFills : Fn := ⟨[.t 6,.t 7],
 (.seq (.ops [⟨some 6,.mov (.k (.u (.a (.int .i64 0)))),none⟩,⟨some 7,.mov (.k (.u (.a (.bool false)))),none⟩])
 (.seq (.seq (.ops [⟨some 8,.mov (.s 0),none⟩,⟨some 9,.mov (.s 1),none⟩,⟨some 10,.mov (.s 2),none⟩,⟨some 11,.call 560 [(.s 8),(.s 9),(.s 10)],none⟩,⟨some 12,.not (.s 11),none⟩])
 (.cond (.s 12)
  (.seq (.ops [⟨some 6,.mov (.k (.u (.a (.int .i64 0)))),none⟩,⟨some 7,.mov (.k (.u (.a (.bool false)))),none⟩])
  (.ret))
  (.skip)))
 (.seq (.ops [⟨some 13,.mov (.s 0),none⟩,⟨some 14,.mov (.s 1),none⟩,⟨some 15,.call 564 [(.s 13),(.s 14)],none⟩,⟨some 16,.mov (.s 2),none⟩,⟨some 17,.call 541 [(.s 15),(.s 16)],none⟩,⟨some 6,.mov (.s 17),none⟩,⟨some 7,.mov (.k (.u (.a (.bool true)))),none⟩])
 (.ret))))⟩

def laws_szIntSS_L0 : IC :=
 (.seq (.seq (.ops [⟨some 12,.mov (.s 5),none⟩,⟨some 13,.mov (.s 0),none⟩,⟨some 14,.len (.s 13),none⟩,⟨some 15,.bin .lss (.s 12) (.s 14),none⟩])
   (.cond (.s 15)
    (.skip)
    (.exit 0)))
   (.seq (.block 1
    (.seq (.ops [⟨some 18,.mov (.s 0),none⟩,⟨some 19,.mov (.s 5),none⟩,⟨some 20,.ia 1 (.s 18) (.s 19),none⟩,⟨some 21,.load false 1 (.s 20),none⟩,⟨some 22,.mov (.s 1),none⟩,⟨some 23,.call 542 [(.s 21),(.s 22)],none⟩,⟨some 1,.mov (.s 23),none⟩])
    (.seq (.ops [⟨some 24,.mov (.s 1),none⟩,⟨some 25,.bin .lss (.s 24) (.k (.u (.a (.int .i64 0)))),none⟩])
    (.cond (.s 25)
     (.seq (.ops [⟨some 4,.mov (.k (.u (.a (.int .i64 (-1))))),none⟩])
     (.ret))
     (.skip)))))
   (.ops [⟨some 16,.mov (.s 5),none⟩,⟨some 17,.bin .add (.s 16) (.k (.u (.a (.int .i64 1)))),none⟩,⟨some 5,.mov (.s 17),none⟩])))
def laws_szIntSS : Fn := ⟨[.t 4],
 (.seq (.ops [⟨some 4,.mov (.k (.u (.a (.int .i64 0)))),none⟩])
 (.seq (.ops [⟨some 6,.mov (.s 1),none⟩,⟨some 7,.mov (.s 0),none⟩,⟨some 8,.len (.s 7),none⟩,⟨some 9,.bin .sub (.s 6) (.s 8),none⟩,⟨some 1,.mov (.s 9),none⟩])
 (.seq (.seq (.ops [⟨some 10,.mov (.s 1),none⟩,⟨some 11,.bin .lss (.s 10) (.k (.u (.a (.int .i64 0)))),none⟩])
 (.cond (.s 11)
  (.seq (.ops [⟨some 4,.mov (.k (.u (.a (.int .i64 (-1))))),none⟩])
  (.ret))
  (.skip)))
 (.seq (.seq (.ops [⟨some 5,.mov (.k (.u (.a (.int .i64 0)))),none⟩])
 (.block 0
  (.loop laws_szIntSS_L0)))
 (.seq (.ops [⟨some 26,.mov (.s 1),none⟩,⟨some 4,.mov (.s 26),none⟩])
 (.ret))))))⟩

def spec_LeastCost : Fn := ⟨[.t 2,.t 3],
 (.seq (.ops [⟨some 2,.mov (.k (.u (.a (.int .i64 0)))),none⟩,⟨some 3,.mov (.k (.u (.a (.bool false)))),none⟩])
 (.seq (.seq (.ops [⟨some 4,.mov (.s 0),none⟩,⟨some 5,.call 565 [(.s 4)],none⟩,⟨some 6,.not (.s 5),none⟩,⟨some 7,.mov (.s 6),none⟩,⟨some 8,.mov (.s 0),some (7,false)⟩,⟨some 9,.call 566 [(.s 8),(.k (.u (.a (.int .i64 (-1)))))],some (7,false)⟩,⟨some 10,.bin .lss (.s 9) (.k (.u (.a (.int .i64 0)))),some (7,false)⟩,⟨some 11,.pick (.s 7) (.k (.u (.a (.bool true)))) (.s 10),none⟩])
 (.cond (.s 11)
  (.seq (.ops [⟨some 2,.mov (.k (.u (.a (.int .i64 0)))),none⟩,⟨some 3,.mov (.k (.u (.a (.bool false)))),none⟩])
  (.ret))
  (.skip)))
 (.seq (.ops [⟨some 12,.mov (.s 0),none⟩,⟨some 13,.call 566 [(.s 12),(.k (.u (.a (.int .i64 (-1)))))],none⟩,⟨some 2,.mov (.s 13),none⟩,⟨some 3,.mov (.k (.u (.a (.bool true)))),none⟩])
 (.ret))))⟩

def laws_toIntSS_L0 : IC :=
 (.seq (.seq (.ops [⟨some 8,.mov (.s 4),none⟩,⟨some 9,.mov (.s 0),none⟩,⟨some 10,.len (.s 9),none⟩,⟨some 11,.bin .lss (.s 8) (.s 10),none⟩])
   (.cond (.s 11)
    (.skip)
    (.exit 0)))
   (.seq (.block 1
    (.ops [⟨some 14,.mov (.s 3),none⟩,⟨some 15,.mov (.s 4),none⟩,⟨some 16,.mov (.s 0),none⟩,⟨some 17,.mov (.s 4),none⟩,⟨some 18,.ia 1 (.s 16) (.s 17),none⟩,⟨some 19,.load false 1 (.s 18),none⟩,⟨some 20,.call 544 [(.s 19)],none⟩,⟨some 21,.ia 1 (.s 14) (.s 15),none⟩,⟨none,.store 1 (.s 21) (.s 20),none⟩]))
   (.ops [⟨some 12,.mov (.s 4),none⟩,⟨some 13,.bin .add (.s 12) (.k (.u (.a (.int .i64 1)))),none⟩,⟨some 4,.mov (.s 13),none⟩])))
def laws_toIntSS : Fn := ⟨[.t 2],
 (.seq (.ops [⟨some 2,.mov (.k (.u (.a .nils))),none⟩])
 (.seq (.ops [⟨some 5,.mov (.s 0),none⟩,⟨some 6,.len (.s 5),none⟩,⟨some 7,.mk [.nils] 24 (.s 6) (.s 6),none⟩,⟨some 3,.mov (.s 7),none⟩])
 (.seq (.seq (.ops [⟨some 4,.mov (.k (.u (.a (.int .i64 0)))),none⟩])
 (.block 0
  (.loop laws_toIntSS_L0)))
 (.seq (.ops [⟨some 22,.mov (.s 3),none⟩,⟨some 2,.mov (.s 22),none⟩])
 (.ret)))))⟩

def impl_LeastCost : Fn := ⟨[.t 2,.t 3],
 (.seq (.ops [⟨some 2,.mov (.k (.u (.a (.int .i64 0)))),none⟩,⟨some 3,.mov (.k (.u (.a (.bool false)))),none⟩])
 (.seq (.ops [⟨some 9,.mov (.s 0),none⟩,⟨some 10,.call 567 [(.s 9)],none⟩,⟨some 8,.mov (.s 10),none⟩,⟨some 11,.ext (.s 8) 0,none⟩,⟨some 12,.ext (.s 8) 1,none⟩,⟨some 4,.mov (.s 11),none⟩,⟨some 5,.mov (.s 12),none⟩])
 (.seq (.seq (.ops [⟨some 13,.mov (.s 5),none⟩,⟨some 14,.not (.s 13),none⟩])
 (.cond (.s 14)
  (.seq (.ops [⟨some 2,.mov (.k (.u (.a (.int .i64 0)))),none⟩,⟨some 3,.mov (.k (.u (.a (.bool false)))),none⟩])
  (.ret))
  (.skip)))
 (.seq (.ops [⟨some 16,.mov (.s 4),none⟩,⟨some 17,.call 562 [(.s 16),(.k (.u (.a (.bool false))))],none⟩,⟨some 15,.mov (.s 17),none⟩,⟨some 18,.ext (.s 15) 0,none⟩,⟨some 19,.ext (.s 15) 1,none⟩,⟨some 6,.mov (.s 18),none⟩,⟨some 7,.mov (.s 19),none⟩])
 (.seq (.seq (.ops [⟨some 20,.mov (.s 6),none⟩,⟨some 21,.bin .eql (.s 20) (.k (.u (.a (.int .i64 0)))),none⟩])
 (.cond (.s 21)
  (.seq (.ops [⟨some 2,.mov (.k (.u (.a (.int .i64 0)))),none⟩,⟨some 3,.mov (.k (.u (.a (.bool false)))),none⟩])
  (.ret))
  (.skip)))
 (.seq (.ops [⟨some 22,.mov (.s 7),none⟩,⟨some 2,.mov (.s 22),none⟩,⟨some 3,.mov (.k (.u (.a (.bool true)))),none⟩])
 (.ret)))))))⟩

def laws_eqIntSS_L0 : IC :=
 (.seq (.seq (.ops [⟨some 11,.mov (.s 5),none⟩,⟨some 12,.mov (.s 0),none⟩,⟨some 13,.len (.s 12),none⟩,⟨some 14,.bin .lss (.s 11) (.s 13),none⟩])
   (.cond (.s 14)
    (.skip)
    (.exit 0)))
   (.seq (.block 1
    (.seq (.dops [⟨⟨some 17,.mov (.s 0),none⟩,[]⟩,⟨⟨some 18,.mov (.s 5),none⟩,[]⟩,⟨⟨some 19,.ia 1 (.s 17) (.s 18),none⟩,[]⟩,⟨⟨some 20,.load false 1 (.s 19),none⟩,[]⟩,⟨⟨some 21,.mov (.s 1),none⟩,[]⟩,⟨⟨some 22,.mov (.s 5),none⟩,[]⟩,⟨⟨some 23,.ia 1 (.s 21) (.s 22),none⟩,[]⟩,⟨⟨some 24,.load false 1 (.s 23),none⟩,[]⟩,⟨⟨some 25,.call 270 [(.s 20),(.s 24)],none⟩,[]⟩,⟨⟨some 26,.not (.s 25),none⟩,[]⟩])
    (.cond (.s 26)
     (.seq (.ops [⟨some 4,.mov (.k (.u (.a (.bool false)))),none⟩])
     (.ret))
     (.skip))))
   (.ops [⟨some 15,.mov (.s 5),none⟩,⟨some 16,.bin .add (.s 15) (.k (.u (.a (.int .i64 1)))),none⟩,⟨some 5,.mov (.s 16),none⟩])))
def laws_eqIntSS : Fn := ⟨[.t 4],
 (.seq (.ops [⟨some 4,.mov (.k (.u (.a (.bool false)))),none⟩])
 (.seq (.seq (.ops [⟨some 6,.mov (.s 0),none⟩,⟨some 7,.len (.s 6),none⟩,⟨some 8,.mov (.s 1),none⟩,⟨some 9,.len (.s 8),none⟩,⟨some 10,.bin .neq (.s 7) (.s 9),none⟩])
 (.cond (.s 10)
  (.seq (.ops [⟨some 4,.mov (.k (.u (.a (.bool false)))),none⟩])
  (.ret))
  (.skip)))
 (.seq (.seq (.ops [⟨some 5,.mov (.k (.u (.a (.int .i64 0)))),none⟩])
 (.block 0
  (.loop laws_eqIntSS_L0)))
 (.seq (.ops [⟨some 4,.mov (.k (.u (.a (.bool true)))),none⟩])
 (.ret)))))⟩

def spec_FirstRepainted_L1 : IC :=
 (.seq (.seq (.ops [⟨some 28,.mov (.s 12),none⟩,⟨some 29,.mov (.s 1),none⟩,⟨some 30,.bin .lss (.s 28) (.s 29),none⟩])
      (.cond (.s 30)
       (.skip)
       (.exit 2)))
      (.seq (.block 3
       (.seq (.ops [⟨some 33,.mov (.s 10),none⟩,⟨some 34,.mov (.s 12),none⟩,⟨some 35,.mov (.s 12),none⟩,⟨some 36,.bin .add (.s 35) (.k (.u (.a (.int .i64 1)))),none⟩,⟨some 37,.sstr (.k (.u (.a (.str [97,98,99,100,101])))) (some (.s 34)) (some (.s 36)),none⟩,⟨some 38,.bin .add (.s 33) (.s 37),none⟩,⟨some 13,.mov (.s 38),none⟩])
       (.seq (.dops [⟨⟨some 39,.mov (.s 11),none⟩,[]⟩,⟨⟨some 40,.bin .eql (.s 39) (.k (.u (.a (.int .i64 0)))),none⟩,[]⟩,⟨⟨some 41,.mov (.s 40),none⟩,[]⟩,⟨⟨some 42,.mov (.s 13),some (41,false)⟩,[]⟩,⟨⟨some 43,.mov (.s 11),some (41,false)⟩,[]⟩,⟨⟨some 44,.ixs (.s 42) (.s 43),some (41,false)⟩,[]⟩,⟨⟨some 45,.mov (.s 13),some (41,false)⟩,[]⟩,⟨⟨some 46,.mov (.s 11),some (41,false)⟩,[]⟩,⟨⟨some 47,.bin .sub (.s 46) (.k (.u (.a (.int .i64 1)))),some (41,false)⟩,[]⟩,⟨⟨some 48,.ixs (.s 45) (.s 47),some (41,false)⟩,[]⟩,⟨⟨some 49,.bin .neq (.s 44) (.s 48),some (41,false)⟩,[]⟩,⟨⟨some 50,.pick (.s 41) (.k (.u (.a (.bool true)))) (.s 49),none⟩,[]⟩,⟨⟨some 51,.mov (.s 50),none⟩,[]⟩,⟨⟨some 52,.mov (.s 0),some (51,true)⟩,[]⟩,⟨⟨some 53,.mov (.s 13),some (51,true)⟩,[]⟩,⟨⟨some 54,.mov (.s 1),some (51,true)⟩,[]⟩,⟨⟨some 55,.mov (.s 2),some (51,true)⟩,[]⟩,⟨⟨some 57,.mov (.s 8),some (51,true)⟩,[]⟩,⟨⟨some 56,.call 559 [(.s 52),(.s 53),(.s 54),(.s 55)],some (51,true)⟩,[]⟩,⟨⟨some 58,.bin .eql (.s 56) (.s 57),some (51,true)⟩,[]⟩,⟨⟨some 59,.pick (.s 51) (.s 58) (.k (.u (.a (.bool false)))),none⟩,[]⟩])
       (.cond (.s 59)
        (.seq (.ops [⟨some 60,.mov (.s 13),none⟩,⟨some 10,.mov (.s 60),none⟩])
        (.exit 2))
        (.skip)))))
      (.ops [⟨some 31,.mov (.s 12),none⟩,⟨some 32,.bin .add (.s 31) (.k (.u (.a (.int .i64 1)))),none⟩,⟨some 12,.mov (.s 32),none⟩])))
def spec_FirstRepainted_L0 : IC :=
 (.seq (.ops [⟨some 25,.nxt (.s 24),none⟩,⟨some 26,.ext (.s 25) 0,none⟩])
   (.seq (.cond (.s 26)
    (.skip)
    (.exit 0))
   (.block 1
    (.seq (.ops [⟨some 27,.ext (.s 25) 1,none⟩,⟨some 11,.mov (.s 27),none⟩])
    (.seq (.ops [⟨some 12,.mov (.k (.u (.a (.int .i64 0)))),none⟩])
    (.block 2
     (.loop spec_FirstRepainted_L1)))))))
def spec_FirstRepainted : Fn := ⟨[.t 6,.t 7],
 (.seq (.ops [⟨some 6,.mov (.k (.u (.a (.str [])))),none⟩,⟨some 7,.mov (.k (.u (.a (.bool false)))),none⟩])
 (.seq (.ops [⟨some 15,.mov (.s 0),none⟩,⟨some 16,.mov (.s 1),none⟩,⟨some 17,.mov (.s 2),none⟩,⟨some 18,.call 77 [(.s 15),(.s 16),(.s 17)],none⟩,⟨some 14,.mov (.s 18),none⟩,⟨some 19,.ext (.s 14) 0,none⟩,⟨some 20,.ext (.s 14) 1,none⟩,⟨some 8,.mov (.s 19),none⟩,⟨some 9,.mov (.s 20),none⟩])
 (.seq (.seq (.ops [⟨some 21,.mov (.s 9),none⟩,⟨some 22,.not (.s 21),none⟩])
 (.cond (.s 22)
  (.seq (.ops [⟨some 6,.mov (.k (.u (.a (.str [])))),none⟩,⟨some 7,.mov (.k (.u (.a (.bool false)))),none⟩])
  (.ret))
  (.skip)))
 (.seq (.ops [⟨some 10,.mov (.k (.u (.a (.str [])))),none⟩])
 (.seq (.seq (.ops [⟨some 23,.mov (.s 0),none⟩,⟨some 24,.rng (.s 23),none⟩])
 (.block 0
  (.loop spec_FirstRepainted_L0)))
 (.seq (.ops [⟨some 61,.mov (.s 10),none⟩,⟨some 6,.mov (.s 61),none⟩,⟨some 7,.mov (.k (.u (.a (.bool true)))),none⟩])
 (.ret)))))))⟩

def impl_FirstRepainted : Fn := ⟨[.t 6,.t 7],
 (.seq (.ops [⟨some 6,.mov (.k (.u (.a (.str [])))),none⟩,⟨some 7,.mov (.k (.u (.a (.bool false)))),none⟩])
 (.seq (.seq (.ops [⟨some 8,.mov (.s 0),none⟩,⟨some 9,.mov (.s 1),none⟩,⟨some 10,.mov (.s 2),none⟩,⟨some 11,.call 560 [(.s 8),(.s 9),(.s 10)],none⟩,⟨some 12,.not (.s 11),none⟩])
 (.cond (.s 12)
  (.seq (.ops [⟨some 6,.mov (.k (.u (.a (.str [])))),none⟩,⟨some 7,.mov (.k (.u (.a (.bool false)))),none⟩])
  (.ret))
  (.skip)))
 (.seq (.ops [⟨some 13,.mov (.s 0),none⟩,⟨some 14,.mov (.s 1),none⟩,⟨some 15,.call 561 [(.s 13),(.s 14)],none⟩,⟨some 16,.mov (.s 2),none⟩,⟨some 17,.call 547 [(.s 15),(.s 16)],none⟩,⟨some 18,.ext (.s 17) 0,none⟩,⟨some 19,.ext (.s 17) 1,none⟩,⟨some 6,.mov (.s 18),none⟩,⟨some 7,.mov (.s 19),none⟩])
 (.ret))))⟩

def spec_FillProper : Fn := ⟨[.t 6,.t 7],
 (.seq (.ops [⟨some 6,.mov (.k (.u (.a (.str [])))),none⟩,⟨some 7,.mov (.k (.u (.a (.bool false)))),none⟩])
 (.seq (.seq (.ops [⟨some 8,.mov (.s 0),none⟩,⟨some 9,.mov (.s 2),none⟩,⟨some 10,.call 557 [(.s 8),(.s 9)],none⟩,⟨some 11,.not (.s 10),none⟩,⟨some 12,.mov (.s 11),none⟩,⟨some 13,.mov (.s 1),some (12,false)⟩,⟨some 14,.call 558 [(.s 13)],some (12,false)⟩,⟨some 15,.not (.s 14),some (12,false)⟩,⟨some 16,.pick (.s 12) (.k (.u (.a (.bool true)))) (.s 15),none⟩,⟨some 17,.mov (.s 16),none⟩,⟨some 18,.mov (.s 0),some (17,false)⟩,⟨some 19,.mov (.s 1),some (17,false)⟩,⟨some 20,.mov (.s 2),some (17,false)⟩,⟨some 21,.call 563 [(.s 18),(.s 19),(.s 20)],some (17,false)⟩,⟨some 22,.bin .eql (.s 21) (.k (.u (.a (.int .i64 0)))),some (17,false)⟩,⟨some 23,.pick (.s 17) (.k (.u (.a (.bool true)))) (.s 22),none⟩])
 (.cond (.s 23)
  (.seq (.ops [⟨some 6,.mov (.k (.u (.a (.str [])))),none⟩,⟨some 7,.mov (.k (.u (.a (.bool false)))),none⟩])
  (.ret))
  (.skip)))
 (.seq (.ops [⟨some 24,.mov (.s 0),none⟩,⟨some 25,.mov (.s 1),none⟩,⟨some 26,.mov (.s 2),none⟩,⟨some 27,.call 555 [(.s 24),(.s 25),(.s 26),(.k (.u (.a (.int .i64 0))))],none⟩,⟨some 6,.mov (.s 27),none⟩,⟨some 7,.mov (.k (.u (.a (.bool true)))),none⟩])
 (.ret))))⟩

def impl_FillProper : Fn := ⟨[.t 6,.t 7],
 (.seq (.ops [⟨some 6,.mov (.k (.u (.a (.str [])))),none⟩,⟨some 7,.mov (.k (.u (.a (.bool false)))),none⟩])
 (.seq (.seq (.ops [⟨some 8,.mov (.s 0),none⟩,⟨some 9,.mov (.s 1),none⟩,⟨some 10,.mov (.s 2),none⟩,⟨some 11,.call 560 [(.s 8),(.s 9),(.s 10)],none⟩,⟨some 12,.not (.s 11),none⟩])
 (.cond (.s 12)
  (.seq (.ops [⟨some 6,.mov (.k (.u (.a (.str [])))),none⟩,⟨some 7,.mov (.k (.u (.a (.bool false)))),none⟩])
  (.ret))
  (.skip)))
 (.seq (.ops [⟨some 13,.mov (.s 0),none⟩,⟨some 14,.mov (.s 1),none⟩,⟨some 15,.call 564 [(.s 13),(.s 14)],none⟩,⟨some 16,.mov (.s 2),none⟩,⟨some 17,.call 547 [(.s 15),(.s 16)],none⟩,⟨some 18,.ext (.s 17) 0,none⟩,⟨some 19,.ext (.s 17) 1,none⟩,⟨some 6,.mov (.s 18),none⟩,⟨some 7,.mov (.s 19),none⟩])
 (.ret))))⟩

def spec_RankOfProper : Fn := ⟨[.t 6,.t 7],
 (.seq (.ops [⟨some 6,.mov (.k (.u (.a (.int .i64 0)))),none⟩,⟨some 7,.mov (.k (.u (.a (.bool false)))),none⟩])
 (.seq (.seq (.ops [⟨some 8,.mov (.s 0),none⟩,⟨some 9,.mov (.s 2),none⟩,⟨some 10,.call 557 [(.s 8),(.s 9)],none⟩,⟨some 11,.not (.s 10),none⟩,⟨some 12,.mov (.s 11),none⟩,⟨some 13,.mov (.s 1),some (12,false)⟩,⟨some 14,.call 558 [(.s 13)],some (12,false)⟩,⟨some 15,.not (.s 14),some (12,false)⟩,⟨some 16,.pick (.s 12) (.k (.u (.a (.bool true)))) (.s 15),none⟩,⟨some 17,.mov (.s 16),none⟩,⟨some 18,.mov (.s 0),some (17,false)⟩,⟨some 19,.mov (.s 1),some (17,false)⟩,⟨some 20,.mov (.s 2),some (17,false)⟩,⟨some 21,.call 582 [(.s 18),(.s 19),(.s 20)],some (17,false)⟩,⟨some 22,.not (.s 21),some (17,false)⟩,⟨some 23,.pick (.s 17) (.k (.u (.a (.bool true)))) (.s 22),none⟩])
 (.cond (.s 23)
  (.seq (.ops [⟨some 6,.mov (.k (.u (.a (.int .i64 0)))),none⟩,⟨some 7,.mov (.k (.u (.a (.bool false)))),none⟩])
  (.ret))
  (.skip)))
 (.seq (.ops [⟨some 24,.mov (.s 0),none⟩,⟨some 25,.mov (.s 1),none⟩,⟨some 26,.mov (.s 2),none⟩,⟨some 27,.call 583 [(.s 24),(.s 25),(.s 26)],none⟩,⟨some 6,.mov (.s 27),none⟩,⟨some 7,.mov (.k (.u (.a (.bool true)))),none⟩])
 (.ret))))⟩

def impl_RankOfProper : Fn := ⟨[.t 6,.t 7],
 (.seq (.ops [⟨some 6,.mov (.k (.u (.a (.int .i64 0)))),none⟩,⟨some 7,.mov (.k (.u (.a (.bool false)))),none⟩])
 (.seq (.seq (.ops [⟨some 8,.mov (.s 0),none⟩,⟨some 9,.mov (.s 2),none⟩,⟨some 10,.call 584 [(.s 8),(.s 9)],none⟩,⟨some 11,.not (.s 10),none⟩,⟨some 12,.mov (.s 11),none⟩,⟨some 13,.mov (.s 1),some (12,false)⟩,⟨some 14,.call 585 [(.s 13)],some (12,false)⟩,⟨some 15,.not (.s 14),some (12,false)⟩,⟨some 16,.pick (.s 12) (.k (.u (.a (.bool true)))) (.s 15),none⟩,⟨some 17,.mov (.s 16),none⟩,⟨some 18,.mov (.s 0),some (17,false)⟩,⟨some 19,.mov (.s 2),some (17,false)⟩,⟨some 20,.call 586 [(.s 18),(.s 19)],some (17,false)⟩,⟨some 21,.not (.s 20),some (17,false)⟩,⟨some 22,.pick (.s 17) (.k (.u (.a (.bool true)))) (.s 21),none⟩])
 (.cond (.s 22)
  (.seq (.ops [⟨some 6,.mov (.k (.u (.a (.int .i64 0)))),none⟩,⟨some 7,.mov (.k (.u (.a (.bool false)))),none⟩])
  (.ret))
  (.skip)))
 (.seq (.ops [⟨some 23,.mov (.s 0),none⟩,⟨some 24,.mov (.s 1),none⟩,⟨some 25,.mov (.s 2),none⟩,⟨some 26,.call 587 [(.s 23),(.s 24),(.s 25)],none⟩,⟨some 27,.ext (.s 26) 0,none⟩,⟨some 28,.ext (.s 26) 1,none⟩,⟨some 6,.mov (.s 27),none⟩,⟨some 7,.mov (.s 28),none⟩])
 (.ret))))⟩

def spec_FirstCheapest_L1 : IC :=
 (.seq (.ops [⟨some 31,.bin .lss (.s 30) (.s 29),none⟩])
      (.seq (.cond (.s 31)
       (.skip)
       (.exit 2))
      (.seq (.block 3
       (.seq (.ops [⟨some 32,.mov (.s 30),none⟩,⟨some 33,.ia 1 (.s 28) (.s 30),none⟩,⟨some 34,.load false 1 (.s 33),none⟩,⟨some 9,.mov (.s 32),none⟩,⟨some 10,.mov (.s 34),none⟩])
       (.seq (.ops [⟨some 35,.mov (.s 9),none⟩,⟨some 36,.mov (.s 5),none⟩,⟨some 37,.bin .neq (.s 35) (.s 36),none⟩,⟨some 38,.mov (.s 37),none⟩,⟨some 39,.mov (.s 10),some (38,true)⟩,⟨some 40,.mov (.s 6),some (38,true)⟩,⟨some 41,.bin .leq (.s 39) (.s 40),some (38,true)⟩,⟨some 42,.pick (.s 38) (.s 41) (.k (.u (.a (.bool false)))),none⟩,⟨some 43,.mov (.s 42),none⟩,⟨some 44,.mov (.s 0),some (43,true)⟩,⟨some 45,.mov (.s 7),some (43,true)⟩,⟨some 46,.bin .add (.s 45) (.k (.u (.a (.int .i64 1)))),some (43,true)⟩,⟨some 47,.slc 1 (.s 44) (some (.s 46)) none none,some (43,true)⟩,⟨some 48,.mov (.s 9),some (43,true)⟩,⟨some 49,.call 566 [(.s 47),(.s 48)],some (43,true)⟩,⟨some 50,.mov (.s 6),some (43,true)⟩,⟨some 51,.mov (.s 10),some (43,true)⟩,⟨some 52,.bin .sub (.s 50) (.s 51),some (43,true)⟩,⟨some 53,.bin .eql (.s 49) (.s 52),some (43,true)⟩,⟨some 54,.pick (.s 43) (.s 53) (.k (.u (.a (.bool false)))),none⟩])
       (.cond (.s 54)
        (.seq (.ops [⟨some 55,.mov (.s 4),none⟩,⟨some 56,.mov (.s 9),none⟩,⟨some 57,.mov (.s 9),none⟩,⟨some 58,.bin .add (.s 57) (.k (.u (.a (.int .i64 1)))),none⟩,⟨some 59,.sstr (.k (.u (.a (.str [97,98,99,100,101])))) (some (.s 56)) (some (.s 58)),none⟩,⟨some 60,.bin .add (.s 55) (.s 59),none⟩,⟨some 4,.mov (.s 60),none⟩])
        (.seq (.ops [⟨some 61,.mov (.s 9),none⟩,⟨some 5,.mov (.s 61),none⟩])
        (.seq (.ops [⟨some 62,.mov (.s 6),none⟩,⟨some 63,.mov (.s 10),none⟩,⟨some 64,.bin .sub (.s 62) (.s 63),none⟩,⟨some 6,.mov (.s 64),none⟩])
        (.exit 2))))
        (.skip)))))
      (.ops [⟨some 65,.bin .add (.s 30) (.k (.u (.a (.int .i64 1)))),none⟩,⟨some 30,.mov (.s 65),none⟩]))))
def spec_FirstCheapest_L0 : IC :=
 (.seq (.ops [⟨some 24,.bin .lss (.s 23) (.s 22),none⟩])
   (.seq (.cond (.s 24)
    (.skip)
    (.exit 0))
   (.seq (.block 1
    (.seq (.ops [⟨some 25,.mov (.s 23),none⟩,⟨some 26,.ia 1 (.s 21) (.s 23),none⟩,⟨some 27,.load false 1 (.s 26),none⟩,⟨some 7,.mov (.s 25),none⟩,⟨some 8,.mov (.s 27),none⟩])
    (.seq (.ops [⟨some 28,.mov (.s 8),none⟩,⟨some 29,.len (.s 28),none⟩,⟨some 30,.mov (.k (.u (.a (.int .i64 0)))),none⟩])
    (.block 2
     (.loop spec_FirstCheapest_L1)))))
   (.ops [⟨some 66,.bin .add (.s 23) (.k (.u (.a (.int .i64 1)))),none⟩,⟨some 23,.mov (.s 66),none⟩]))))
def spec_FirstCheapest : Fn := ⟨[.t 2,.t 3],
 (.seq (.ops [⟨some 2,.mov (.k (.u (.a (.str [])))),none⟩,⟨some 3,.mov (.k (.u (.a (.bool false)))),none⟩])
 (.seq (.seq (.ops [⟨some 11,.mov (.s 0),none⟩,⟨some 12,.call 565 [(.s 11)],none⟩,⟨some 13,.not (.s 12),none⟩,⟨some 14,.mov (.s 13),none⟩,⟨some 15,.mov (.s 0),some (14,false)⟩,⟨some 16,.call 566 [(.s 15),(.k (.u (.a (.int .i64 (-1)))))],some (14,false)⟩,⟨some 17,.bin .lss (.s 16) (.k (.u (.a (.int .i64 0)))),some (14,false)⟩,⟨some 18,.pick (.s 14) (.k (.u (.a (.bool true)))) (.s 17),none⟩])
 (.cond (.s 18)
  (.seq (.ops [⟨some 2,.mov (.k (.u (.a (.str [])))),none⟩,⟨some 3,.mov (.k (.u (.a (.bool false)))),none⟩])
  (.ret))
  (.skip)))
 (.seq (.ops [⟨some 4,.mov (.k (.u (.a (.str [])))),none⟩])
 (.seq (.ops [⟨some 19,.mov (.s 0),none⟩,⟨some 20,.call 566 [(.s 19),(.k (.u (.a (.int .i64 (-1)))))],none⟩,⟨some 5,.mov (.k (.u (.a (.int .i64 (-1))))),none⟩,⟨some 6,.mov (.s 20),none⟩])
 (.seq (.seq (.ops [⟨some 21,.mov (.s 0),none⟩,⟨some 22,.len (.s 21),none⟩,⟨some 23,.mov (.k (.u (.a (.int .i64 0)))),none⟩])
 (.block 0
  (.loop spec_FirstCheapest_L0)))
 (.seq (.ops [⟨some 67,.mov (.s 4),none⟩,⟨some 2,.mov (.s 67),none⟩,⟨some 3,.mov (.k (.u (.a (.bool true)))),none⟩])
 (.ret)))))))⟩

def impl_FirstCheapest : Fn := ⟨[.t 2,.t 3],
 (.seq (.ops [⟨some 2,.mov (.k (.u (.a (.str [])))),none⟩,⟨some 3,.mov (.k (.u (.a (.bool false)))),none⟩])
 (.seq (.ops [⟨some 7,.mov (.s 0),none⟩,⟨some 8,.call 567 [(.s 7)],none⟩,⟨some 6,.mov (.s 8),none⟩,⟨some 9,.ext (.s 6) 0,none⟩,⟨some 10,.ext (.s 6) 1,none⟩,⟨some 4,.mov (.s 9),none⟩,⟨some 5,.mov (.s 10),none⟩])
 (.seq (.seq (.ops [⟨some 11,.mov (.s 5),none⟩,⟨some 12,.not (.s 11),none⟩])
 (.cond (.s 12)
  (.seq (.ops [⟨some 2,.mov (.k (.u (.a (.str [])))),none⟩,⟨some 3,.mov (.k (.u (.a (.bool false)))),none⟩])
  (.ret))
  (.skip)))
 (.seq (.ops [⟨some 13,.mov (.s 4),none⟩,⟨some 14,.call 547 [(.s 13),(.k (.u (.a (.bool false))))],none⟩,⟨some 15,.ext (.s 14) 0,none⟩,⟨some 16,.ext (.s 14) 1,none⟩,⟨some 2,.mov (.s 15),none⟩,⟨some 3,.mov (.s 16),none⟩])
 (.ret)))))⟩

def laws_szStringS_L0 : IC :=
 (.seq (.seq (.ops [⟨some 12,.mov (.s 5),none⟩,⟨some 13,.mov (.s 0),none⟩,⟨some 14,.len (.s 13),none⟩,⟨some 15,.bin .lss (.s 12) (.s 14),none⟩])
   (.cond (.s 15)
    (.skip)
    (.exit 0)))
   (.seq (.block 1
    (.seq (.ops [⟨some 18,.mov (.s 1),none⟩,⟨some 19,.mov (.s 0),none⟩,⟨some 20,.mov (.s 5),none⟩,⟨some 21,.ia 1 (.s 19) (.s 20),none⟩,⟨some 22,.load false 1 (.s 21),none⟩,⟨some 23,.lens (.s 22),none⟩,⟨some 24,.bin .sub (.s 18) (.s 23),none⟩,⟨some 1,.mov (.s 24),none⟩])
    (.seq (.ops [⟨some 25,.mov (.s 1),none⟩,⟨some 26,.bin .lss (.s 25) (.k (.u (.a (.int .i64 0)))),none⟩])
    (.cond (.s 26)
     (.seq (.ops [⟨some 4,.mov (.k (.u (.a (.int .i64 (-1))))),none⟩])
     (.ret))
     (.skip)))))
   (.ops [⟨some 16,.mov (.s 5),none⟩,⟨some 17,.bin .add (.s 16) (.k (.u (.a (.int .i64 1)))),none⟩,⟨some 5,.mov (.s 17),none⟩])))
def laws_szStringS : Fn := ⟨[.t 4],
 (.seq (.ops [⟨some 4,.mov (.k (.u (.a (.int .i64 0)))),none⟩])
 (.seq (.ops [⟨some 6,.mov (.s 1),none⟩,⟨some 7,.mov (.s 0),none⟩,⟨some 8,.len (.s 7),none⟩,⟨some 9,.bin .sub (.s 6) (.s 8),none⟩,⟨some 1,.mov (.s 9),none⟩])
 (.seq (.seq (.ops [⟨some 10,.mov (.s 1),none⟩,⟨some 11,.bin .lss (.s 10) (.k (.u (.a (.int .i64 0)))),none⟩])
 (.cond (.s 11)
  (.seq (.ops [⟨some 4,.mov (.k (.u (.a (.int .i64 (-1))))),none⟩])
  (.ret))
  (.skip)))
 (.seq (.seq (.ops [⟨some 5,.mov (.k (.u (.a (.int .i64 0)))),none⟩])
 (.block 0
  (.loop laws_szStringS_L0)))
 (.seq (.ops [⟨some 27,.mov (.s 1),none⟩,⟨some 4,.mov (.s 27),none⟩])
 (.ret))))))⟩

def spec_CountListed : Fn := ⟨[.t 2,.t 3],
 (.seq (.ops [⟨some 2,.mov (.k (.u (.a (.int .i64 0)))),none⟩,⟨some 3,.mov (.k (.u (.a (.bool false)))),none⟩])
 (.seq (.seq (.ops [⟨some 4,.mov (.s 0),none⟩,⟨some 5,.call 588 [(.s 4)],none⟩,⟨some 6,.not (.s 5),none⟩])
 (.cond (.s 6)
  (.seq (.ops [⟨some 2,.mov (.k (.u (.a (.int .i64 0)))),none⟩,⟨some 3,.mov (.k (.u (.a (.bool false)))),none⟩])
  (.ret))
  (.skip)))
 (.seq (.ops [⟨some 7,.mov (.s 0),none⟩,⟨some 8,.call 589 [(.s 7),(.k (.u (.a (.int .u8 0))))],none⟩,⟨some 2,.mov (.s 8),none⟩,⟨some 3,.mov (.k (.u (.a (.bool true)))),none⟩])
 (.ret))))⟩

def laws_toStringS_L0 : IC :=
 (.seq (.seq (.ops [⟨some 8,.mov (.s 4),none⟩,⟨some 9,.mov (.s 0),none⟩,⟨some 10,.len (.s 9),none⟩,⟨some 11,.bin .lss (.s 8) (.s 10),none⟩])
   (.cond (.s 11)
    (.skip)
    (.exit 0)))
   (.seq (.block 1
    (.ops [⟨some 14,.mov (.s 3),none⟩,⟨some 15,.mov (.s 4),none⟩,⟨some 16,.mov (.s 0),none⟩,⟨some 17,.mov (.s 4),none⟩,⟨some 18,.ia 1 (.s 16) (.s 17),none⟩,⟨some 19,.load false 1 (.s 18),none⟩,⟨some 20,.ia 1 (.s 14) (.s 15),none⟩,⟨none,.store 1 (.s 20) (.s 19),none⟩]))
   (.ops [⟨some 12,.mov (.s 4),none⟩,⟨some 13,.bin .add (.s 12) (.k (.u (.a (.int .i64 1)))),none⟩,⟨some 4,.mov (.s 13),none⟩])))
def laws_toStringS : Fn := ⟨[.t 2],
 (.seq (.ops [⟨some 2,.mov (.k (.u (.a .nils))),none⟩])
 (.seq (.ops [⟨some 5,.mov (.s 0),none⟩,⟨some 6,.len (.s 5),none⟩,⟨some 7,.mk [(.str [])] 16 (.s 6) (.s 6),none⟩,⟨some 3,.mov (.s 7),none⟩])
 (.seq (.seq (.ops [⟨some 4,.mov (.k (.u (.a (.int .i64 0)))),none⟩])
 (.block 0
  (.loop laws_toStringS_L0)))
 (.seq (.ops [⟨some 21,.mov (.s 3),none⟩,⟨some 2,.mov (.s 21),none⟩])
 (.ret)))))⟩

def impl_CountListed : Fn := ⟨[.t 2,.t 3],
 (.seq (.ops [⟨some 2,.mov (.k (.u (.a (.int .i64 0)))),none⟩,⟨some 3,.mov (.k (.u (.a (.bool false)))),none⟩])
 (.seq (.ops [⟨some 7,.mov (.s 0),none⟩,⟨some 8,.call 590 [(.s 7)],none⟩,⟨some 6,.mov (.s 8),none⟩,⟨some 9,.ext (.s 6) 0,none⟩,⟨some 10,.ext (.s 6) 1,none⟩,⟨some 4,.mov (.s 9),none⟩,⟨some 5,.mov (.s 10),none⟩])
 (.seq (.seq (.ops [⟨some 11,.mov (.s 5),none⟩,⟨some 12,.not (.s 11),none⟩])
 (.cond (.s 12)
  (.seq (.ops [⟨some 2,.mov (.k (.u (.a (.int .i64 0)))),none⟩,⟨some 3,.mov (.k (.u (.a (.bool false)))),none⟩])
  (.ret))
  (.skip)))
 (.seq (.ops [⟨some 13,.mov (.s 4),none⟩,⟨some 14,.call 541 [(.s 13),(.k (.u (.a (.bool false))))],none⟩,⟨some 2,.mov (.s 14),none⟩,⟨some 3,.mov (.k (.u (.a (.bool true)))),none⟩])
 (.ret)))))⟩

def laws_eqStringS_L0 : IC :=
 (.seq (.seq (.ops [⟨some 11,.mov (.s 5),none⟩,⟨some 12,.mov (.s 0),none⟩,⟨some 13,.len (.s 12),none⟩,⟨some 14,.bin .lss (.s 11) (.s 13),none⟩])
   (.cond (.s 14)
    (.skip)
    (.exit 0)))
   (.seq (.block 1
    (.seq (.dops [⟨⟨some 17,.mov (.s 0),none⟩,[]⟩,⟨⟨some 18,.mov (.s 5),none⟩,[]⟩,⟨⟨some 19,.ia 1 (.s 17) (.s 18),none⟩,[]⟩,⟨⟨some 20,.load false 1 (.s 19),none⟩,[]⟩,⟨⟨some 21,.mov (.s 1),none⟩,[]⟩,⟨⟨some 22,.mov (.s 5),none⟩,[]⟩,⟨⟨some 23,.ia 1 (.s 21) (.s 22),none⟩,[]⟩,⟨⟨some 24,.load false 1 (.s 23),none⟩,[]⟩,⟨⟨some 25,.bin .neq (.s 20) (.s 24),none⟩,[]⟩])
    (.cond (.s 25)
     (.seq (.ops [⟨some 4,.mov (.k (.u (.a (.bool false)))),none⟩])
     (.ret))
     (.skip))))
   (.ops [⟨some 15,.mov (.s 5),none⟩,⟨some 16,.bin .add (.s 15) (.k (.u (.a (.int .i64 1)))),none⟩,⟨some 5,.mov (.s 16),none⟩])))
def laws_eqStringS : Fn := ⟨[.t 4],
 (.seq (.ops [⟨some 4,.mov (.k (.u (.a (.bool false)))),none⟩])
 (.seq (.seq (.ops [⟨some 6,.mov (.s 0),none⟩,⟨some 7,.len (.s 6),none⟩,⟨some 8,.mov (.s 1),none⟩,⟨some 9,.len (.s 8),none⟩,⟨some 10,.bin .neq (.s 7) (.s 9),none⟩])
 (.cond (.s 10)
  (.seq (.ops [⟨some 4,.mov (.k (.u (.a (.bool false)))),none⟩])
  (.ret))
  (.skip)))
 (.seq (.seq (.ops [⟨some 5,.mov (.k (.u (.a (.int .i64 0)))),none⟩])
 (.block 0
  (.loop laws_eqStringS_L0)))
 (.seq (.ops [⟨some 4,.mov (.k (.u (.a (.bool true)))),none⟩])
 (.ret)))))⟩

def spec_NextProper : Fn := ⟨[.t 6,.t 7],
 (.seq (.ops [⟨some 6,.mov (.k (.u (.a (.str [])))),none⟩,⟨some 7,.mov (.k (.u (.a (.bool false)))),none⟩])
 (.seq (.ops [⟨some 11,.mov (.s 0),none⟩,⟨some 12,.mov (.s 1),none⟩,⟨some 13,.mov (.s 2),none⟩,⟨some 14,.call 118 [(.s 11),(.s 12),(.s 13)],none⟩,⟨some 10,.mov (.s 14),none⟩,⟨some 15,.ext (.s 10) 0,none⟩,⟨some 16,.ext (.s 10) 1,none⟩,⟨some 8,.mov (.s 15),none⟩,⟨some 9,.mov (.s 16),none⟩])
 (.seq (.seq (.ops [⟨some 17,.mov (.s 9),none⟩,⟨some 18,.not (.s 17),none⟩])
 (.cond (.s 18)
  (.seq (.ops [⟨some 6,.mov (.k (.u (.a (.str [])))),none⟩,⟨some 7,.mov (.k (.u (.a (.bool false)))),none⟩])
  (.ret))
  (.skip)))
 (.seq (.ops [⟨some 19,.mov (.s 0),none⟩,⟨some 20,.lens (.s 19),none⟩,⟨some 21,.mov (.s 1),none⟩,⟨some 22,.mov (.s 2),none⟩,⟨some 23,.mov (.s 8),none⟩,⟨some 24,.bin .add (.s 23) (.k (.u (.a (.int .i64 1)))),none⟩,⟨some 25,.call 75 [(.s 20),(.s 21),(.s 22),(.s 24)],none⟩,⟨some 26,.ext (.s 25) 0,none⟩,⟨some 27,.ext (.s 25) 1,none⟩,⟨some 6,.mov (.s 26),none⟩,⟨some 7,.mov (.s 27),none⟩])
 (.ret)))))⟩

def impl_NextProper : Fn := ⟨[.t 6,.t 7],
 (.seq (.ops [⟨some 6,.mov (.k (.u (.a (.str [])))),none⟩,⟨some 7,.mov (.k (.u (.a (.bool false)))),none⟩])
 (.seq (.ops [⟨some 11,.mov (.s 0),none⟩,⟨some 12,.mov (.s 1),none⟩,⟨some 13,.mov (.s 2),none⟩,⟨some 14,.call 119 [(.s 11),(.s 12),(.s 13)],none⟩,⟨some 10,.mov (.s 14),none⟩,⟨some 15,.ext (.s 10) 0,none⟩,⟨some 16,.ext (.s 10) 1,none⟩,⟨some 8,.mov (.s 15),none⟩,⟨some 9,.mov (.s 16),none⟩])
 (.seq (.seq (.ops [⟨some 17,.mov (.s 9),none⟩,⟨some 18,.not (.s 17),none⟩])
 (.cond (.s 18)
  (.seq (.ops [⟨some 6,.mov (.k (.u (.a (.str [])))),none⟩,⟨some 7,.mov (.k (.u (.a (.bool false)))),none⟩])
  (.ret))
  (.skip)))
 (.seq (.ops [⟨some 19,.mov (.s 0),none⟩,⟨some 20,.lens (.s 19),none⟩,⟨some 21,.mov (.s 1),none⟩,⟨some 22,.mov (.s 2),none⟩,⟨some 23,.mov (.s 8),none⟩,⟨some 24,.bin .add (.s 23) (.k (.u (.a (.int .i64 1)))),none⟩,⟨some 25,.call 556 [(.s 20),(.s 21),(.s 22),(.s 24)],none⟩,⟨some 26,.ext (.s 25) 0,none⟩,⟨some 27,.ext (.s 25) 1,none⟩,⟨some 6,.mov (.s 26),none⟩,⟨some 7,.mov (.s 27),none⟩])
 (.ret)))))⟩

def spec_FirstListed_L1 : IC :=
 (.seq (.seq (.ops [⟨some 24,.mov (.s 8),none⟩,⟨some 25,.mov (.s 7),none⟩,⟨some 26,.lens (.s 25),none⟩,⟨some 27,.bin .lss (.s 24) (.s 26),none⟩])
      (.cond (.s 27)
       (.skip)
       (.exit 2)))
      (.seq (.block 3
       (.seq (.dops [⟨⟨some 30,.mov (.s 7),none⟩,[]⟩,⟨⟨some 31,.mov (.s 8),none⟩,[]⟩,⟨⟨some 32,.ixs (.s 30) (.s 31),none⟩,[]⟩,⟨⟨some 33,.mov (.s 5),none⟩,[]⟩,⟨⟨some 34,.bin .neq (.s 32) (.s 33),none⟩,[]⟩,⟨⟨some 35,.mov (.s 34),none⟩,[]⟩,⟨⟨some 36,.mov (.s 0),some (35,true)⟩,[]⟩,⟨⟨some 37,.mov (.s 6),some (35,true)⟩,[]⟩,⟨⟨some 38,.bin .add (.s 37) (.k (.u (.a (.int .i64 1)))),some (35,true)⟩,[]⟩,⟨⟨some 39,.slc 1 (.s 36) (some (.s 38)) none none,some (35,true)⟩,[]⟩,⟨⟨some 40,.mov (.s 7),some (35,true)⟩,[]⟩,⟨⟨some 41,.mov (.s 8),some (35,true)⟩,[]⟩,⟨⟨some 42,.ixs (.s 40) (.s 41),some (35,true)⟩,[]⟩,⟨⟨some 43,.call 589 [(.s 39),(.s 42)],some (35,true)⟩,[]⟩,⟨⟨some 44,.bin .gtr (.s 43) (.k (.u (.a (.int .i64 0)))),some (35,true)⟩,[]⟩,⟨⟨some 45,.pick (.s 35) (.s 44) (.k (.u (.a (.bool false)))),none⟩,[]⟩])
       (.cond (.s 45)
        (.seq (.ops [⟨some 46,.mov (.s 7),none⟩,⟨some 47,.mov (.s 8),none⟩,⟨some 48,.ixs (.s 46) (.s 47),none⟩,⟨some 5,.mov (.s 48),none⟩])
        (.seq (.ops [⟨some 49,.mov (.s 4),none⟩,⟨some 50,.mov (.s 7),none⟩,⟨some 51,.mov (.s 8),none⟩,⟨some 52,.mov (.s 8),none⟩,⟨some 53,.bin .add (.s 52) (.k (.u (.a (.int .i64 1)))),none⟩,⟨some 54,.sstr (.s 50) (some (.s 51)) (some (.s 53)),none⟩,⟨some 55,.bin .add (.s 49) (.s 54),none⟩,⟨some 4,.mov (.s 55),none⟩])
        (.exit 2)))
        (.skip))))
      (.ops [⟨some 28,.mov (.s 8),none⟩,⟨some 29,.bin .add (.s 28) (.k (.u (.a (.int .i64 1)))),none⟩,⟨some 8,.mov (.s 29),none⟩])))
def spec_FirstListed_L0 : IC :=
 (.seq (.ops [⟨some 20,.bin .lss (.s 19) (.s 18),none⟩])
   (.seq (.cond (.s 20)
    (.skip)
    (.exit 0))
   (.seq (.block 1
    (.seq (.ops [⟨some 21,.mov (.s 19),none⟩,⟨some 22,.ia 1 (.s 17) (.s 19),none⟩,⟨some 23,.load false 1 (.s 22),none⟩,⟨some 6,.mov (.s 21),none⟩,⟨some 7,.mov (.s 23),none⟩])
    (.seq (.ops [⟨some 8,.mov (.k (.u (.a (.int .i64 0)))),none⟩])
    (.block 2
     (.loop spec_FirstListed_L1)))))
   (.ops [⟨some 56,.bin .add (.s 19) (.k (.u (.a (.int .i64 1)))),none⟩,⟨some 19,.mov (.s 56),none⟩]))))
def spec_FirstListed : Fn := ⟨[.t 2,.t 3],
 (.seq (.ops [⟨some 2,.mov (.k (.u (.a (.str [])))),none⟩,⟨some 3,.mov (.k (.u (.a (.bool false)))),none⟩])
 (.seq (.seq (.ops [⟨some 9,.mov (.s 0),none⟩,⟨some 10,.call 588 [(.s 9)],none⟩,⟨some 11,.not (.s 10),none⟩,⟨some 12,.mov (.s 11),none⟩,⟨some 13,.mov (.s 0),some (12,false)⟩,⟨some 14,.call 589 [(.s 13),(.k (.u (.a (.int .u8 0))))],some (12,false)⟩,⟨some 15,.bin .eql (.s 14) (.k (.u (.a (.int .i64 0)))),some (12,false)⟩,⟨some 16,.pick (.s 12) (.k (.u (.a (.bool true)))) (.s 15),none⟩])
 (.cond (.s 16)
  (.seq (.ops [⟨some 2,.mov (.k (.u (.a (.str [])))),none⟩,⟨some 3,.mov (.k (.u (.a (.bool false)))),none⟩])
  (.ret))
  (.skip)))
 (.seq (.ops [⟨some 4,.mov (.k (.u (.a (.str [])))),none⟩])
 (.seq (.ops [⟨some 5,.mov (.k (.u (.a (.int .u8 0)))),none⟩])
 (.seq (.seq (.ops [⟨some 17,.mov (.s 0),none⟩,⟨some 18,.len (.s 17),none⟩,⟨some 19,.mov (.k (.u (.a (.int .i64 0)))),none⟩])
 (.block 0
  (.loop spec_FirstListed_L0)))
 (.seq (.ops [⟨some 57,.mov (.s 4),none⟩,⟨some 2,.mov (.s 57),none⟩,⟨some 3,.mov (.k (.u (.a (.bool true)))),none⟩])
 (.ret)))))))⟩

def impl_FirstListed : Fn := ⟨[.t 2,.t 3],
 (.seq (.ops [⟨some 2,.mov (.k (.u (.a (.str [])))),none⟩,⟨some 3,.mov (.k (.u (.a (.bool false)))),none⟩])
 (.seq (.ops [⟨some 7,.mov (.s 0),none⟩,⟨some 8,.call 590 [(.s 7)],none⟩,⟨some 6,.mov (.s 8),none⟩,⟨some 9,.ext (.s 6) 0,none⟩,⟨some 10,.ext (.s 6) 1,none⟩,⟨some 4,.mov (.s 9),none⟩,⟨some 5,.mov (.s 10),none⟩])
 (.seq (.seq (.ops [⟨some 11,.mov (.s 5),none⟩,⟨some 12,.not (.s 11),none⟩])
 (.cond (.s 12)
  (.seq (.ops [⟨some 2,.mov (.k (.u (.a (.str [])))),none⟩,⟨some 3,.mov (.k (.u (.a (.bool false)))),none⟩])
  (.ret))
  (.skip)))
 (.seq (.ops [⟨some 13,.mov (.s 4),none⟩,⟨some 14,.call 547 [(.s 13),(.k (.u (.a (.bool false))))],none⟩,⟨some 15,.ext (.s 14) 0,none⟩,⟨some 16,.ext (.s 14) 1,none⟩,⟨some 2,.mov (.s 15),none⟩,⟨some 3,.mov (.s 16),none⟩])
 (.ret)))))⟩

def laws_eqIntS_L0 : IC :=
 (.seq (.seq (.ops [⟨some 11,.mov (.s 5),none⟩,⟨some 12,.mov (.s 0),none⟩,⟨some 13,.len (.s 12),none⟩,⟨some 14,.bin .lss (.s 11) (.s 13),none⟩])
   (.cond (.s 14)
    (.skip)
    (.exit 0)))
   (.seq (.block 1
    (.seq (.dops [⟨⟨some 17,.mov (.s 0),none⟩,[]⟩,⟨⟨some 18,.mov (.s 5),none⟩,[]⟩,⟨⟨some 19,.ia 1 (.s 17) (.s 18),none⟩,[]⟩,⟨⟨some 20,.load false 1 (.s 19),none⟩,[]⟩,⟨⟨some 21,.mov (.s 1),none⟩,[]⟩,⟨⟨some 22,.mov (.s 5),none⟩,[]⟩,⟨⟨some 23,.ia 1 (.s 21) (.s 22),none⟩,[]⟩,⟨⟨some 24,.load false 1 (.s 23),none⟩,[]⟩,⟨⟨some 25,.bin .neq (.s 20) (.s 24),none⟩,[]⟩])
    (.cond (.s 25)
     (.seq (.ops [⟨some 4,.mov (.k (.u (.a (.bool false)))),none⟩])
     (.ret))
     (.skip))))
   (.ops [⟨some 15,.mov (.s 5),none⟩,⟨some 16,.bin .add (.s 15) (.k (.u (.a (.int .i64 1)))),none⟩,⟨some 5,.mov (.s 16),none⟩])))
def laws_eqIntS : Fn := ⟨[.t 4],
 (.seq (.ops [⟨some 4,.mov (.k (.u (.a (.bool false)))),none⟩])
 (.seq (.seq (.ops [⟨some 6,.mov (.s 0),none⟩,⟨some 7,.len (.s 6),none⟩,⟨some 8,.mov (.s 1),none⟩,⟨some 9,.len (.s 8),none⟩,⟨some 10,.bin .neq (.s 7) (.s 9),none⟩])
 (.cond (.s 10)
  (.seq (.ops [⟨some 4,.mov (.k (.u (.a (.bool false)))),none⟩])
  (.ret))
  (.skip)))
 (.seq (.seq (.ops [⟨some 5,.mov (.k (.u (.a (.int .i64 0)))),none⟩])
 (.block 0
  (.loop laws_eqIntS_L0)))
 (.seq (.ops [⟨some 4,.mov (.k (.u (.a (.bool true)))),none⟩])
 (.ret)))))⟩

def laws_markIntS_L0 : IC :=
 (.seq (.seq (.ops [⟨some 6,.mov (.s 5),none⟩,⟨some 7,.mov (.s 0),none⟩,⟨some 8,.len (.s 7),none⟩,⟨some 9,.bin .lss (.s 6) (.s 8),none⟩])
   (.cond (.s 9)
    (.skip)
    (.exit 0)))
   (.seq (.block 1
    (.seq (.ops [⟨some 12,.mov (.s 0),none⟩,⟨some 13,.mov (.s 5),none⟩,⟨some 14,.mov (.s 1),none⟩,⟨some 15,.ia 1 (.s 12) (.s 13),none⟩,⟨none,.store 1 (.s 15) (.s 14),none⟩])
    (.ops [⟨some 16,.mov (.s 1),none⟩,⟨some 17,.bin .add (.s 16) (.k (.u (.a (.int .i64 1)))),none⟩,⟨some 1,.mov (.s 17),none⟩])))
   (.ops [⟨some 10,.mov (.s 5),none⟩,⟨some 11,.bin .add (.s 10) (.k (.u (.a (.int .i64 1)))),none⟩,⟨some 5,.mov (.s 11),none⟩])))
def laws_markIntS : Fn := ⟨[.t 4],
 (.seq (.ops [⟨some 4,.mov (.k (.u (.a (.int .i64 0)))),none⟩])
 (.seq (.seq (.ops [⟨some 5,.mov (.k (.u (.a (.int .i64 0)))),none⟩])
 (.block 0
  (.loop laws_markIntS_L0)))
 (.seq (.ops [⟨some 18,.mov (.s 1),none⟩,⟨some 4,.mov (.s 18),none⟩])
 (.ret))))⟩

def laws_heldIntS_L0 : IC :=
 (.seq (.seq (.ops [⟨some 6,.mov (.s 5),none⟩,⟨some 7,.mov (.s 0),none⟩,⟨some 8,.len (.s 7),none⟩,⟨some 9,.bin .lss (.s 6) (.s 8),none⟩])
   (.cond (.s 9)
    (.skip)
    (.exit 0)))
   (.seq (.block 1
    (.seq (.seq (.ops [⟨some 12,.mov (.s 0),none⟩,⟨some 13,.mov (.s 5),none⟩,⟨some 14,.ia 1 (.s 12) (.s 13),none⟩,⟨some 15,.load false 1 (.s 14),none⟩,⟨some 16,.mov (.s 1),none⟩,⟨some 17,.bin .neq (.s 15) (.s 16),none⟩])
    (.cond (.s 17)
     (.seq (.ops [⟨some 4,.mov (.k (.u (.a (.int .i64 (-1))))),none⟩])
     (.ret))
     (.skip)))
    (.ops [⟨some 18,.mov (.s 1),none⟩,⟨some 19,.bin .add (.s 18) (.k (.u (.a (.int .i64 1)))),none⟩,⟨some 1,.mov (.s 19),none⟩])))
   (.ops [⟨some 10,.mov (.s 5),none⟩,⟨some 11,.bin .add (.s 10) (.k (.u (.a (.int .i64 1)))),none⟩,⟨some 5,.mov (.s 11),none⟩])))
def laws_heldIntS : Fn := ⟨[.t 4],
 (.seq (.ops [⟨some 4,.mov (.k (.u (.a (.int .i64 0)))),none⟩])
 (.seq (.seq (.ops [⟨some 5,.mov (.k (.u (.a (.int .i64 0)))),none⟩])
 (.block 0
  (.loop laws_heldIntS_L0)))
 (.seq (.ops [⟨some 20,.mov (.s 1),none⟩,⟨some 4,.mov (.s 20),none⟩])
 (.ret))))⟩

def laws_markStringS_L0 : IC :=
 (.seq (.seq (.ops [⟨some 6,.mov (.s 5),none⟩,⟨some 7,.mov (.s 0),none⟩,⟨some 8,.len (.s 7),none⟩,⟨some 9,.bin .lss (.s 6) (.s 8),none⟩])
   (.cond (.s 9)
    (.skip)
    (.exit 0)))
   (.seq (.block 1
    (.seq (.ops [⟨some 12,.mov (.s 0),none⟩,⟨some 13,.mov (.s 5),none⟩,⟨some 14,.mov (.s 1),none⟩,⟨some 15,.call 687 [(.s 14)],none⟩,⟨some 16,.ia 1 (.s 12) (.s 13),none⟩,⟨none,.store 1 (.s 16) (.s 15),none⟩])
    (.ops [⟨some 17,.mov (.s 1),none⟩,⟨some 18,.bin .add (.s 17) (.k (.u (.a (.int .i64 1)))),none⟩,⟨some 1,.mov (.s 18),none⟩])))
   (.ops [⟨some 10,.mov (.s 5),none⟩,⟨some 11,.bin .add (.s 10) (.k (.u (.a (.int .i64 1)))),none⟩,⟨some 5,.mov (.s 11),none⟩])))
def laws_markStringS : Fn := ⟨[.t 4],
 (.seq (.ops [⟨some 4,.mov (.k (.u (.a (.int .i64 0)))),none⟩])
 (.seq (.seq (.ops [⟨some 5,.mov (.k (.u (.a (.int .i64 0)))),none⟩])
 (.block 0
  (.loop laws_markStringS_L0)))
 (.seq (.ops [⟨some 19,.mov (.s 1),none⟩,⟨some 4,.mov (.s 19),none⟩])
 (.ret))))⟩

def laws_heldStringS_L0 : IC :=
 (.seq (.seq (.ops [⟨some 6,.mov (.s 5),none⟩,⟨some 7,.mov (.s 0),none⟩,⟨some 8,.len (.s 7),none⟩,⟨some 9,.bin .lss (.s 6) (.s 8),none⟩])
   (.cond (.s 9)
    (.skip)
    (.exit 0)))
   (.seq (.block 1
    (.seq (.seq (.dops [⟨⟨some 12,.mov (.s 0),none⟩,[]⟩,⟨⟨some 13,.mov (.s 5),none⟩,[]⟩,⟨⟨some 14,.ia 1 (.s 12) (.s 13),none⟩,[]⟩,⟨⟨some 15,.load false 1 (.s 14),none⟩,[]⟩,⟨⟨some 16,.mov (.s 1),none⟩,[]⟩,⟨⟨some 17,.call 687 [(.s 16)],none⟩,[⟨some 15,.load false 1 (.s 14),none⟩]⟩,⟨⟨some 18,.bin .neq (.s 15) (.s 17),none⟩,[]⟩])
    (.cond (.s 18)
     (.seq (.ops [⟨some 4,.mov (.k (.u (.a (.int .i64 (-1))))),none⟩])
     (.ret))
     (.skip)))
    (.ops [⟨some 19,.mov (.s 1),none⟩,⟨some 20,.bin .add (.s 19) (.k (.u (.a (.int .i64 1)))),none⟩,⟨some 1,.mov (.s 20),none⟩])))
   (.ops [⟨some 10,.mov (.s 5),none⟩,⟨some 11,.bin .add (.s 10) (.k (.u (.a (.int .i64 1)))),none⟩,⟨some 5,.mov (.s 11),none⟩])))
def laws_heldStringS : Fn := ⟨[.t 4],
 (.seq (.ops [⟨some 4,.mov (.k (.u (.a (.int .i64 0)))),none⟩])
 (.seq (.seq (.ops [⟨some 5,.mov (.k (.u (.a (.int .i64 0)))),none⟩])
 (.block 0
  (.loop laws_heldStringS_L0)))
 (.seq (.ops [⟨some 21,.mov (.s 1),none⟩,⟨some 4,.mov (.s 21),none⟩])
 (.ret))))⟩

def impl_IsFence : Fn := ⟨[.t 2],
 (.seq (.ops [⟨some 2,.mov (.k (.u (.a (.bool false)))),none⟩])
 (.seq (.ops [⟨some 3,.mov (.s 0),none⟩,⟨some 4,.lens (.s 3),none⟩,⟨some 5,.call 597 [(.s 4),(.k (.u (.a (.int .i64 1)))),(.k (.u (.a (.int .i64 20))))],none⟩,⟨some 6,.mov (.s 5),none⟩,⟨some 7,.mov (.s 0),some (6,true)⟩,⟨some 8,.s2b (.s 7),some (6,true)⟩,⟨some 9,.call 721 [(.s 8),(.k (.u (.a (.fn 722 []))))],some (6,true)⟩,⟨some 10,.not (.s 9),some (6,true)⟩,⟨some 11,.pick (.s 6) (.s 10) (.k (.u (.a (.bool false)))),none⟩,⟨some 2,.mov (.s 11),none⟩])
 (.ret)))⟩

def impl_IsLand_L0 : IC :=
 (.seq (.ops [⟨some 12,.bin .lss (.s 11) (.s 10),none⟩])
   (.seq (.cond (.s 12)
    (.skip)
    (.exit 0))
   (.seq (.block 1
    (.seq (.ops [⟨some 13,.ia 1 (.s 9) (.s 11),none⟩,⟨some 14,.load false 1 (.s 13),none⟩,⟨some 4,.mov (.s 14),none⟩])
    (.seq (.ops [⟨some 15,.mov (.s 4),none⟩,⟨some 16,.lens (.s 15),none⟩,⟨some 17,.call 597 [(.s 16),(.k (.u (.a (.int .i64 1)))),(.k (.u (.a (.int .i64 12))))],none⟩,⟨some 18,.not (.s 17),none⟩,⟨some 19,.mov (.s 18),none⟩,⟨some 20,.mov (.s 4),some (19,false)⟩,⟨some 21,.lens (.s 20),some (19,false)⟩,⟨some 22,.mov (.s 0),some (19,false)⟩,⟨some 23,.ia 1 (.s 22) (.k (.u (.a (.int .i64 0)))),some (19,false)⟩,⟨some 24,.load false 1 (.s 23),some (19,false)⟩,⟨some 25,.lens (.s 24),some (19,false)⟩,⟨some 26,.bin .neq (.s 21) (.s 25),some (19,false)⟩,⟨some 27,.pick (.s 19) (.k (.u (.a (.bool true)))) (.s 26),none⟩,⟨some 28,.mov (.s 27),none⟩,⟨some 29,.mov (.s 4),some (28,false)⟩,⟨some 30,.call 315 [(.s 29)],some (28,false)⟩,⟨some 31,.not (.s 30),some (28,false)⟩,⟨some 32,.pick (.s 28) (.k (.u (.a (.bool true)))) (.s 31),none⟩])
    (.cond (.s 32)
     (.seq (.ops [⟨some 2,.mov (.k (.u (.a (.bool false)))),none⟩])
     (.ret))
     (.skip)))))
   (.ops [⟨some 33,.bin .add (.s 11) (.k (.u (.a (.int .i64 1)))),none⟩,⟨some 11,.mov (.s 33),none⟩]))))
def impl_IsLand : Fn := ⟨[.t 2],
 (.seq (.ops [⟨some 2,.mov (.k (.u (.a (.bool false)))),none⟩])
 (.seq (.seq (.ops [⟨some 5,.mov (.s 0),none⟩,⟨some 6,.len (.s 5),none⟩,⟨some 7,.call 597 [(.s 6),(.k (.u (.a (.int .i64 1)))),(.k (.u (.a (.int .i64 12))))],none⟩,⟨some 8,.not (.s 7),none⟩])
 (.cond (.s 8)
  (.seq (.ops [⟨some 2,.mov (.k (.u (.a (.bool false)))),none⟩])
  (.ret))
  (.skip)))
 (.seq (.seq (.ops [⟨some 9,.mov (.s 0),none⟩,⟨some 10,.len (.s 9),none⟩,⟨some 11,.mov (.k (.u (.a (.int .i64 0)))),none⟩])
 (.block 0
  (.loop impl_IsLand_L0)))
 (.seq (.ops [⟨some 2,.mov (.k (.u (.a (.bool true)))),none⟩])
 (.ret)))))⟩

def impl_AreHeights : Fn := ⟨[.t 2],
 (.seq (.ops [⟨some 2,.mov (.k (.u (.a (.bool false)))),none⟩])
 (.seq (.ops [⟨some 3,.mov (.s 0),none⟩,⟨some 4,.len (.s 3),none⟩,⟨some 5,.call 597 [(.s 4),(.k (.u (.a (.int .i64 1)))),(.k (.u (.a (.int .i64 20))))],none⟩,⟨some 6,.mov (.s 5),none⟩,⟨some 7,.mov (.s 0),some (6,true)⟩,⟨some 8,.call 617 [(.s 7),(.k (.u (.a (.int .i64 0)))),(.k (.u (.a (.int .i64 50))))],some (6,true)⟩,⟨some 9,.pick (.s 6) (.s 8) (.k (.u (.a (.bool false)))),none⟩,⟨some 2,.mov (.s 9),none⟩])
 (.ret)))⟩

def impl_AreRails : Fn := ⟨[.t 2],
 (.seq (.ops [⟨some 2,.mov (.k (.u (.a (.bool false)))),none⟩])
 (.seq (.ops [⟨some 3,.mov (.s 0),none⟩,⟨some 4,.len (.s 3),none⟩,⟨some 5,.call 597 [(.s 4),(.k (.u (.a (.int .i64 1)))),(.k (.u (.a (.int .i64 8))))],none⟩,⟨some 6,.mov (.s 5),none⟩,⟨some 7,.mov (.s 0),some (6,true)⟩,⟨some 8,.call 569 [(.s 7)],some (6,true)⟩,⟨some 9,.pick (.s 6) (.s 8) (.k (.u (.a (.bool false)))),none⟩,⟨some 2,.mov (.s 9),none⟩])
 (.ret)))⟩

def spec_coAsked : Fn := ⟨[.t 6],
 (.seq (.ops [⟨some 6,.mov (.k (.u (.a (.bool false)))),none⟩])
 (.seq (.ops [⟨some 7,.mov (.s 0),none⟩,⟨some 8,.mov (.s 2),none⟩,⟨some 9,.call 874 [(.s 7),(.s 8)],none⟩,⟨some 10,.mov (.s 9),none⟩,⟨some 11,.mov (.s 1),some (10,true)⟩,⟨some 12,.call 558 [(.s 11)],some (10,true)⟩,⟨some 13,.pick (.s 10) (.s 12) (.k (.u (.a (.bool false)))),none⟩,⟨some 6,.mov (.s 13),none⟩])
 (.ret)))⟩

def spec_coFrom_L0 : IC :=
 (.seq (.seq (.ops [⟨some 35,.mov (.s 11),none⟩,⟨some 36,.mov (.s 1),none⟩,⟨some 37,.bin .lss (.s 35) (.s 36),none⟩])
   (.cond (.s 37)
    (.skip)
    (.exit 0)))
   (.seq (.block 1
    (.seq (.ops [⟨some 40,.mov (.s 0),none⟩,⟨some 41,.mov (.s 11),none⟩,⟨some 42,.call 876 [(.s 40),(.k (.u (.a (.int .i64 0)))),(.s 41)],none⟩])
    (.cond (.s 42)
     (.ops [⟨some 43,.mov (.s 10),none⟩,⟨some 44,.mov (.s 0),none⟩,⟨some 45,.mov (.s 1),none⟩,⟨some 46,.mov (.s 11),none⟩,⟨some 47,.mov (.s 11),none⟩,⟨some 48,.call 875 [(.s 44),(.s 45),(.k (.u (.a (.int .i64 1)))),(.s 46),(.s 47)],none⟩,⟨some 49,.bin .add (.s 43) (.s 48),none⟩,⟨some 10,.mov (.s 49),none⟩])
     (.skip))))
   (.ops [⟨some 38,.mov (.s 11),none⟩,⟨some 39,.bin .add (.s 38) (.k (.u (.a (.int .i64 1)))),none⟩,⟨some 11,.mov (.s 39),none⟩])))
def spec_coFrom : Fn := ⟨[.t 8],
 (.seq (.ops [⟨some 8,.mov (.k (.u (.a (.int .i64 0)))),none⟩])
 (.seq (.seq (.ops [⟨some 12,.mov (.s 3),none⟩,⟨some 13,.bin .gtr (.s 12) (.k (.u (.a (.int .i64 0)))),none⟩])
 (.cond (.s 13)
  (.seq (.ops [⟨some 9,.mov (.k (.u (.a (.int .i64 (-1))))),none⟩])
  (.seq (.seq (.ops [⟨some 14,.mov (.s 2),none⟩])
  (.cond (.s 14)
   (.ops [⟨some 15,.mov (.s 0),none⟩,⟨some 16,.ixs (.s 15) (.k (.u (.a (.int .i64 0)))),none⟩,⟨some 17,.bin .sub (.s 16) (.k (.u (.a (.int .u8 97)))),none⟩,⟨some 18,.cvt .i64 (.s 17),none⟩,⟨some 9,.mov (.s 18),none⟩])
   (.skip)))
  (.seq (.ops [⟨some 19,.mov (.s 0),none⟩,⟨some 20,.mov (.s 1),none⟩,⟨some 21,.mov (.s 3),none⟩,⟨some 22,.mov (.s 0),none⟩,⟨some 23,.mov (.s 3),none⟩,⟨some 24,.bin .sub (.s 23) (.k (.u (.a (.int .i64 1)))),none⟩,⟨some 25,.ixs (.s 22) (.s 24),none⟩,⟨some 26,.bin .sub (.s 25) (.k (.u (.a (.int .u8 97)))),none⟩,⟨some 27,.cvt .i64 (.s 26),none⟩,⟨some 28,.mov (.s 9),none⟩,⟨some 29,.call 875 [(.s 19),(.s 20),(.s 21),(.s 27),(.s 28)],none⟩,⟨some 8,.mov (.s 29),none⟩])
  (.ret))))
  (.skip)))
 (.seq (.seq (.ops [⟨some 30,.mov (.s 2),none⟩,⟨some 31,.not (.s 30),none⟩])
 (.cond (.s 31)
  (.seq (.ops [⟨some 32,.mov (.s 0),none⟩,⟨some 33,.mov (.s 1),none⟩,⟨some 34,.call 875 [(.s 32),(.s 33),(.k (.u (.a (.int .i64 0)))),(.k (.u (.a (.int .i64 (-1))))),(.k (.u (.a (.int .i64 (-1)))))],none⟩,⟨some 8,.mov (.s 34),none⟩])
  (.ret))
  (.skip)))
 (.seq (.ops [⟨some 10,.mov (.k (.u (.a (.int .i64 0)))),none⟩])
 (.seq (.seq (.ops [⟨some 11,.mov (.k (.u (.a (.int .i64 0)))),none⟩])
 (.block 0
  (.loop spec_coFrom_L0)))
 (.seq (.ops [⟨some 50,.mov (.s 10),none⟩,⟨some 8,.mov (.s 50),none⟩])
 (.ret)))))))⟩

def spec_coBare_L0 : IC :=
 (.seq (.seq (.ops [⟨some 4,.mov (.s 0),none⟩,⟨some 5,.bin .gtr (.s 4) (.k (.u (.a (.int .i64 0)))),none⟩])
   (.cond (.s 5)
    (.skip)
    (.exit 0)))
   (.seq (.block 1
    (.ops [⟨some 8,.mov (.s 3),none⟩,⟨some 9,.bin .add (.s 8) (.k (.u (.a (.str [46])))),none⟩,⟨some 3,.mov (.s 9),none⟩]))
   (.ops [⟨some 6,.mov (.s 0),none⟩,⟨some 7,.bin .sub (.s 6) (.k (.u (.a (.int .i64 1)))),none⟩,⟨some 0,.mov (.s 7),none⟩])))
def spec_coBare : Fn := ⟨[.t 2],
 (.seq (.ops [⟨some 2,.mov (.k (.u (.a (.str [])))),none⟩])
 (.seq (.ops [⟨some 3,.mov (.k (.u (.a (.str [])))),none⟩])
 (.seq (.block 0
  (.loop spec_coBare_L0))
 (.seq (.ops [⟨some 10,.mov (.s 3),none⟩,⟨some 2,.mov (.s 10),none⟩])
 (.ret)))))⟩

def impl_isTinted : Fn := ⟨[.t 6],
 (.seq (.ops [⟨some 6,.mov (.k (.u (.a (.bool false)))),none⟩])
 (.seq (.ops [⟨some 7,.mov (.s 0),none⟩,⟨some 8,.mov (.s 2),none⟩,⟨some 9,.call 877 [(.s 7),(.s 8)],none⟩,⟨some 10,.mov (.s 9),none⟩,⟨some 11,.mov (.s 1),some (10,true)⟩,⟨some 12,.call 585 [(.s 11)],some (10,true)⟩,⟨some 13,.pick (.s 10) (.s 12) (.k (.u (.a (.bool false)))),none⟩,⟨some 6,.mov (.s 13),none⟩])
 (.ret)))⟩

def impl_free_L1 : IC :=
 (.seq (.ops [⟨some 14,.bin .lss (.s 13) (.k (.u (.a (.int .i64 5)))),none⟩])
      (.seq (.cond (.s 14)
       (.skip)
       (.exit 2))
      (.seq (.block 3
       (.seq (.ops [⟨some 15,.mov (.s 13),none⟩,⟨some 7,.mov (.s 15),none⟩])
       (.seq (.ops [⟨some 16,.mov (.s 7),none⟩,⟨some 17,.mov (.s 1),none⟩,⟨some 18,.bin .geq (.s 16) (.s 17),none⟩])
       (.cond (.s 18)
        (.ops [⟨some 19,.mov (.s 7),none⟩,⟨some 20,.iap 5 1 (.s 6) (.s 19),none⟩,⟨none,.store 1 (.s 20) (.k (.u (.a (.int .i64 1099511627776)))),none⟩])
        (.skip)))))
      (.ops [⟨some 21,.bin .add (.s 13) (.k (.u (.a (.int .i64 1)))),none⟩,⟨some 13,.mov (.s 21),none⟩]))))
def impl_free_L0 : IC :=
 (.seq (.ops [⟨some 11,.bin .lss (.s 10) (.s 9),none⟩])
   (.seq (.cond (.s 11)
    (.skip)
    (.exit 0))
   (.seq (.block 1
    (.seq (.ops [⟨some 12,.build [(.int .i64 0),(.int .i64 0),(.int .i64 0),(.int .i64 0),(.int .i64 0)] [],none⟩,⟨some 6,.alloc [(.int .i64 0),(.int .i64 0),(.int .i64 0),(.int .i64 0),(.int .i64 0)],none⟩,⟨none,.store 5 (.s 6) (.s 12),none⟩])
    (.seq (.seq (.ops [⟨some 13,.mov (.k (.u (.a (.int .i64 0)))),none⟩])
    (.block 2
     (.loop impl_free_L1)))
    (.ops [⟨some 22,.mov (.s 5),none⟩,⟨some 23,.load true 5 (.s 6),none⟩,⟨some 24,.lit [(.int .i64 0),(.int .i64 0),(.int .i64 0),(.int .i64 0),(.int .i64 0)] 1 [(0,5,(.s 23))],none⟩,⟨some 25,.app 5 40 (.s 22) (.s 24),none⟩,⟨some 5,.mov (.s 25),none⟩]))))
   (.ops [⟨some 26,.bin .add (.s 10) (.k (.u (.a (.int .i64 1)))),none⟩,⟨some 10,.mov (.s 26),none⟩]))))
def impl_free : Fn := ⟨[.t 4],
 (.seq (.ops [⟨some 4,.mov (.k (.u (.a .nils))),none⟩])
 (.seq (.ops [⟨some 8,.lit [(.int .i64 0),(.int .i64 0),(.int .i64 0),(.int .i64 0),(.int .i64 0)] 0 [],none⟩,⟨some 5,.mov (.s 8),none⟩])
 (.seq (.seq (.ops [⟨some 9,.mov (.s 0),none⟩,⟨some 10,.mov (.k (.u (.a (.int .i64 0)))),none⟩])
 (.block 0
  (.loop impl_free_L0)))
 (.seq (.ops [⟨some 27,.mov (.s 5),none⟩,⟨some 4,.mov (.s 27),none⟩])
 (.ret)))))⟩

def impl_table_count : Fn := ⟨[.t 4],
 (.seq (.ops [⟨some 4,.mov (.k (.u (.a (.int .i64 0)))),none⟩])
 (.seq (.ops [⟨some 8,.mov (.s 0),none⟩,⟨some 9,.mov (.s 1),none⟩,⟨some 10,.call 562 [(.s 8),(.s 9)],none⟩,⟨some 7,.mov (.s 10),none⟩,⟨some 11,.ext (.s 7) 0,none⟩,⟨some 12,.ext (.s 7) 1,none⟩,⟨some 5,.mov (.s 11),none⟩,⟨some 6,.mov (.s 12),none⟩])
 (.seq (.ops [⟨some 13,.mov (.s 5),none⟩,⟨some 4,.mov (.s 13),none⟩])
 (.ret))))⟩

def laws_szIntS : Fn := ⟨[.t 4],
 (.seq (.ops [⟨some 4,.mov (.k (.u (.a (.int .i64 0)))),none⟩])
 (.seq (.ops [⟨some 5,.mov (.s 1),none⟩,⟨some 6,.mov (.s 0),none⟩,⟨some 7,.len (.s 6),none⟩,⟨some 8,.bin .sub (.s 5) (.s 7),none⟩,⟨some 1,.mov (.s 8),none⟩])
 (.seq (.seq (.ops [⟨some 9,.mov (.s 1),none⟩,⟨some 10,.bin .lss (.s 9) (.k (.u (.a (.int .i64 0)))),none⟩])
 (.cond (.s 10)
  (.seq (.ops [⟨some 4,.mov (.k (.u (.a (.int .i64 (-1))))),none⟩])
  (.ret))
  (.skip)))
 (.seq (.ops [⟨some 11,.mov (.s 1),none⟩,⟨some 4,.mov (.s 11),none⟩])
 (.ret)))))⟩

def spec_cnGood : Fn := ⟨[.t 2],
 (.seq (.ops [⟨some 1,.box (.s 0),none⟩,⟨some 2,.mov (.k (.u (.a (.bool false)))),none⟩])
 (.seq (.ops [⟨some 3,.fadr 0 (.s 1),none⟩,⟨some 4,.load false 1 (.s 3),none⟩,⟨some 5,.call 715 [(.s 4)],none⟩,⟨some 6,.mov (.s 5),none⟩,⟨some 7,.fadr 1 (.s 1),some (6,true)⟩,⟨some 8,.load false 1 (.s 7),some (6,true)⟩,⟨some 9,.call 846 [(.s 8)],some (6,true)⟩,⟨some 10,.pick (.s 6) (.s 9) (.k (.u (.a (.bool false)))),none⟩,⟨some 11,.mov (.s 10),none⟩,⟨some 12,.fadr 2 (.s 1),some (11,true)⟩,⟨some 13,.load false 1 (.s 12),some (11,true)⟩,⟨some 14,.call 675 [(.s 13)],some (11,true)⟩,⟨some 15,.pick (.s 11) (.s 14) (.k (.u (.a (.bool false)))),none⟩,⟨some 16,.mov (.s 15),none⟩,⟨some 17,.fadr 3 (.s 1),some (16,true)⟩,⟨some 18,.load false 1 (.s 17),some (16,true)⟩,⟨some 19,.call 783 [(.s 18)],some (16,true)⟩,⟨some 20,.pick (.s 16) (.s 19) (.k (.u (.a (.bool false)))),none⟩,⟨some 2,.mov (.s 20),none⟩])
 (.ret)))⟩

def laws_toIntS_L0 : IC :=
 (.seq (.seq (.ops [⟨some 8,.mov (.s 4),none⟩,⟨some 9,.mov (.s 0),none⟩,⟨some 10,.len (.s 9),none⟩,⟨some 11,.bin .lss (.s 8) (.s 10),none⟩])
   (.cond (.s 11)
    (.skip)
    (.exit 0)))
   (.seq (.block 1
    (.ops [⟨some 14,.mov (.s 3),none⟩,⟨some 15,.mov (.s 4),none⟩,⟨some 16,.mov (.s 0),none⟩,⟨some 17,.mov (.s 4),none⟩,⟨some 18,.ia 1 (.s 16) (.s 17),none⟩,⟨some 19,.load false 1 (.s 18),none⟩,⟨some 20,.ia 1 (.s 14) (.s 15),none⟩,⟨none,.store 1 (.s 20) (.s 19),none⟩]))
   (.ops [⟨some 12,.mov (.s 4),none⟩,⟨some 13,.bin .add (.s 12) (.k (.u (.a (.int .i64 1)))),none⟩,⟨some 4,.mov (.s 13),none⟩])))
def laws_toIntS : Fn := ⟨[.t 2],
 (.seq (.ops [⟨some 2,.mov (.k (.u (.a .nils))),none⟩])
 (.seq (.ops [⟨some 5,.mov (.s 0),none⟩,⟨some 6,.len (.s 5),none⟩,⟨some 7,.mk [(.int .i64 0)] 8 (.s 6) (.s 6),none⟩,⟨some 3,.mov (.s 7),none⟩])
 (.seq (.seq (.ops [⟨some 4,.mov (.k (.u (.a (.int .i64 0)))),none⟩])
 (.block 0
  (.loop laws_toIntS_L0)))
 (.seq (.ops [⟨some 21,.mov (.s 3),none⟩,⟨some 2,.mov (.s 21),none⟩])
 (.ret)))))⟩

def spec_coChoose_L0 : IC :=
 (.seq (.seq (.ops [⟨some 7,.mov (.s 6),none⟩,⟨some 8,.mov (.s 1),none⟩,⟨some 9,.bin .leq (.s 7) (.s 8),none⟩])
   (.cond (.s 9)
    (.skip)
    (.exit 0)))
   (.seq (.block 1
    (.ops [⟨some 12,.mov (.s 5),none⟩,⟨some 13,.mov (.s 0),none⟩,⟨some 14,.mov (.s 1),none⟩,⟨some 15,.bin .sub (.s 13) (.s 14),none⟩,⟨some 16,.mov (.s 6),none⟩,⟨some 17,.bin .add (.s 15) (.s 16),none⟩,⟨some 18,.bin .mul (.s 12) (.s 17),none⟩,⟨some 19,.mov (.s 6),none⟩,⟨some 20,.bin .quo (.s 18) (.s 19),none⟩,⟨some 5,.mov (.s 20),none⟩]))
   (.ops [⟨some 10,.mov (.s 6),none⟩,⟨some 11,.bin .add (.s 10) (.k (.u (.a (.int .i64 1)))),none⟩,⟨some 6,.mov (.s 11),none⟩])))
def spec_coChoose : Fn := ⟨[.t 4],
 (.seq (.ops [⟨some 4,.mov (.k (.u (.a (.int .i64 0)))),none⟩])
 (.seq (.ops [⟨some 5,.mov (.k (.u (.a (.int .i64 1)))),none⟩])
 (.seq (.seq (.ops [⟨some 6,.mov (.k (.u (.a (.int .i64 1)))),none⟩])
 (.block 0
  (.loop spec_coChoose_L0)))
 (.seq (.ops [⟨some 21,.mov (.s 5),none⟩,⟨some 4,.mov (.s 21),none⟩])
 (.ret)))))⟩

def impl_choose_L0 : IC :=
 (.seq (.ops [⟨some 9,.bin .lss (.s 8) (.s 7),none⟩])
   (.seq (.cond (.s 9)
    (.skip)
    (.exit 0))
   (.seq (.block 1
    (.seq (.ops [⟨some 10,.mov (.s 8),none⟩,⟨some 6,.mov (.s 10),none⟩])
    (.ops [⟨some 11,.mov (.s 5),none⟩,⟨some 12,.mov (.s 0),none⟩,⟨some 13,.mov (.s 6),none⟩,⟨some 14,.bin .sub (.s 12) (.s 13),none⟩,⟨some 15,.bin .mul (.s 11) (.s 14),none⟩,⟨some 16,.mov (.s 6),none⟩,⟨some 17,.bin .add (.s 16) (.k (.u (.a (.int .i64 1)))),none⟩,⟨some 18,.bin .quo (.s 15) (.s 17),none⟩,⟨some 5,.mov (.s 18),none⟩])))
   (.ops [⟨some 19,.bin .add (.s 8) (.k (.u (.a (.int .i64 1)))),none⟩,⟨some 8,.mov (.s 19),none⟩]))))
def impl_choose : Fn := ⟨[.t 4],
 (.seq (.ops [⟨some 4,.mov (.k (.u (.a (.int .i64 0)))),none⟩])
 (.seq (.ops [⟨some 5,.mov (.k (.u (.a (.int .i64 1)))),none⟩])
 (.seq (.seq (.ops [⟨some 7,.mov (.s 1),none⟩,⟨some 8,.mov (.k (.u (.a (.int .i64 0)))),none⟩])
 (.block 0
  (.loop impl_choose_L0)))
 (.seq (.ops [⟨some 20,.mov (.s 5),none⟩,⟨some 4,.mov (.s 20),none⟩])
 (.ret)))))⟩

def impl_table_first_L1 : IC :=
 (.seq (.ops [⟨some 29,.bin .lss (.s 28) (.k (.u (.a (.int .i64 5)))),none⟩])
      (.seq (.cond (.s 29)
       (.skip)
       (.exit 2))
      (.seq (.block 3
       (.seq (.ops [⟨some 30,.mov (.s 28),none⟩,⟨some 10,.mov (.s 30),none⟩])
       (.seq (.ops [⟨some 31,.mov (.s 0),none⟩,⟨some 32,.mov (.s 9),none⟩,⟨some 33,.mov (.s 10),none⟩,⟨some 34,.call 878 [(.s 31),(.s 32),(.s 33)],none⟩,⟨some 11,.mov (.s 34),none⟩])
       (.seq (.ops [⟨some 36,.mov (.s 11),none⟩,⟨some 37,.mov (.s 1),none⟩,⟨some 38,.call 562 [(.s 36),(.s 37)],none⟩,⟨some 35,.mov (.s 38),none⟩,⟨some 39,.ext (.s 35) 0,none⟩,⟨some 40,.ext (.s 35) 1,none⟩,⟨some 12,.mov (.s 39),none⟩,⟨some 13,.mov (.s 40),none⟩])
       (.seq (.ops [⟨some 41,.mov (.s 12),none⟩,⟨some 42,.bin .gtr (.s 41) (.k (.u (.a (.int .i64 0)))),none⟩,⟨some 43,.mov (.s 42),none⟩,⟨some 44,.mov (.s 13),some (43,true)⟩,⟨some 45,.mov (.s 7),some (43,true)⟩,⟨some 46,.bin .eql (.s 44) (.s 45),some (43,true)⟩,⟨some 47,.pick (.s 43) (.s 46) (.k (.u (.a (.bool false)))),none⟩])
       (.cond (.s 47)
        (.seq (.ops [⟨some 48,.mov (.s 8),none⟩,⟨some 49,.mov (.s 10),none⟩,⟨some 50,.bin .add (.k (.u (.a (.int .i64 97)))) (.s 49),none⟩,⟨some 51,.cvt .u8 (.s 50),none⟩,⟨some 52,.lit [(.int .u8 0)] 1 [(0,1,(.s 51))],none⟩,⟨some 53,.app 1 1 (.s 48) (.s 52),none⟩,⟨some 54,.mov (.s 11),none⟩,⟨some 8,.mov (.s 53),none⟩,⟨some 0,.mov (.s 54),none⟩])
        (.exit 2))
        (.skip)))))))
      (.ops [⟨some 55,.bin .add (.s 28) (.k (.u (.a (.int .i64 1)))),none⟩,⟨some 28,.mov (.s 55),none⟩]))))
def impl_table_first_L0 : IC :=
 (.seq (.ops [⟨some 26,.bin .lss (.s 25) (.s 24),none⟩])
   (.seq (.cond (.s 26)
    (.skip)
    (.exit 0))
   (.seq (.block 1
    (.seq (.ops [⟨some 27,.mov (.s 25),none⟩,⟨some 9,.mov (.s 27),none⟩])
    (.seq (.ops [⟨some 28,.mov (.k (.u (.a (.int .i64 0)))),none⟩])
    (.block 2
     (.loop impl_table_first_L1)))))
   (.ops [⟨some 56,.bin .add (.s 25) (.k (.u (.a (.int .i64 1)))),none⟩,⟨some 25,.mov (.s 56),none⟩]))))
def impl_table_first : Fn := ⟨[.t 4,.t 5],
 (.seq (.ops [⟨some 4,.mov (.k (.u (.a (.str [])))),none⟩,⟨some 5,.mov (.k (.u (.a (.bool false)))),none⟩])
 (.seq (.ops [⟨some 15,.mov (.s 0),none⟩,⟨some 16,.mov (.s 1),none⟩,⟨some 17,.call 562 [(.s 15),(.s 16)],none⟩,⟨some 14,.mov (.s 17),none⟩,⟨some 18,.ext (.s 14) 0,none⟩,⟨some 19,.ext (.s 14) 1,none⟩,⟨some 6,.mov (.s 18),none⟩,⟨some 7,.mov (.s 19),none⟩])
 (.seq (.seq (.ops [⟨some 20,.mov (.s 6),none⟩,⟨some 21,.bin .eql (.s 20) (.k (.u (.a (.int .i64 0)))),none⟩])
 (.cond (.s 21)
  (.seq (.ops [⟨some 4,.mov (.k (.u (.a (.str [])))),none⟩,⟨some 5,.mov (.k (.u (.a (.bool false)))),none⟩])
  (.ret))
  (.skip)))
 (.seq (.ops [⟨some 22,.lit [(.int .u8 0)] 0 [],none⟩,⟨some 8,.mov (.s 22),none⟩])
 (.seq (.seq (.ops [⟨some 23,.mov (.s 0),none⟩,⟨some 24,.len (.s 23),none⟩,⟨some 25,.mov (.k (.u (.a (.int .i64 0)))),none⟩])
 (.block 0
  (.loop impl_table_first_L0)))
 (.seq (.ops [⟨some 57,.mov (.s 8),none⟩,⟨some 58,.b2s (.s 57),none⟩,⟨some 4,.mov (.s 58),none⟩,⟨some 5,.mov (.k (.u (.a (.bool true)))),none⟩])
 (.ret)))))))⟩

def strings_Contains : Fn := ⟨[.t 4],
 (.seq (.ops [⟨some 4,.mov (.k (.u (.a (.bool false)))),none⟩])
 (.seq (.ops [⟨some 5,.mov (.s 0),none⟩,⟨some 6,.mov (.s 1),none⟩,⟨some 7,.call 883 [(.s 5),(.s 6)],none⟩,⟨some 8,.bin .geq (.s 7) (.k (.u (.a (.int .i64 0)))),none⟩,⟨some 4,.mov (.s 8),none⟩])
 (.ret)))⟩

def spec_coRanked_L1 : IC :=
 (.seq (.seq (.ops [⟨some 20,.mov (.s 11),none⟩,⟨some 21,.mov (.s 1),none⟩,⟨some 22,.bin .lss (.s 20) (.s 21),none⟩])
      (.cond (.s 22)
       (.skip)
       (.exit 2)))
      (.seq (.block 3
       (.seq (.seq (.ops [⟨some 25,.mov (.s 0),none⟩,⟨some 26,.mov (.s 10),none⟩,⟨some 27,.mov (.s 11),none⟩,⟨some 28,.call 876 [(.s 25),(.s 26),(.s 27)],none⟩,⟨some 29,.not (.s 28),none⟩,⟨some 30,.mov (.s 29),none⟩,⟨some 31,.mov (.s 10),some (30,false)⟩,⟨some 32,.bin .gtr (.s 31) (.k (.u (.a (.int .i64 0)))),some (30,false)⟩,⟨some 33,.mov (.s 32),some (30,false)⟩,⟨some 34,.mov (.s 9),some (33,true)⟩,⟨some 35,.mov (.s 10),some (33,true)⟩,⟨some 36,.bin .sub (.s 35) (.k (.u (.a (.int .i64 1)))),some (33,true)⟩,⟨some 37,.ixs (.s 34) (.s 36),some (33,true)⟩,⟨some 38,.bin .sub (.s 37) (.k (.u (.a (.int .u8 97)))),some (33,true)⟩,⟨some 39,.cvt .i64 (.s 38),some (33,true)⟩,⟨some 40,.mov (.s 11),some (33,true)⟩,⟨some 41,.bin .eql (.s 39) (.s 40),some (33,true)⟩,⟨some 42,.pick (.s 33) (.s 41) (.k (.u (.a (.bool false)))),some (30,false)⟩,⟨some 43,.pick (.s 30) (.k (.u (.a (.bool true)))) (.s 42),none⟩])
       (.cond (.s 43)
        (.exit 3)
        (.skip)))
       (.seq (.ops [⟨some 44,.mov (.s 9),none⟩,⟨some 45,.mov (.s 10),none⟩,⟨some 46,.mov (.s 11),none⟩,⟨some 47,.call 891 [(.s 44),(.s 45),(.s 46)],none⟩,⟨some 12,.mov (.s 47),none⟩])
       (.seq (.ops [⟨some 48,.mov (.s 12),none⟩,⟨some 49,.mov (.s 1),none⟩,⟨some 50,.mov (.s 2),none⟩,⟨some 51,.mov (.s 10),none⟩,⟨some 52,.bin .add (.s 51) (.k (.u (.a (.int .i64 1)))),none⟩,⟨some 53,.call 537 [(.s 48),(.s 49),(.s 50),(.s 52)],none⟩,⟨some 13,.mov (.s 53),none⟩])
       (.seq (.seq (.ops [⟨some 54,.mov (.s 3),none⟩,⟨some 55,.mov (.s 13),none⟩,⟨some 56,.bin .lss (.s 54) (.s 55),none⟩])
       (.cond (.s 56)
        (.seq (.ops [⟨some 57,.mov (.s 12),none⟩,⟨some 9,.mov (.s 57),none⟩])
        (.exit 2))
        (.skip)))
       (.ops [⟨some 58,.mov (.s 3),none⟩,⟨some 59,.mov (.s 13),none⟩,⟨some 60,.bin .sub (.s 58) (.s 59),none⟩,⟨some 3,.mov (.s 60),none⟩]))))))
      (.ops [⟨some 23,.mov (.s 11),none⟩,⟨some 24,.bin .add (.s 23) (.k (.u (.a (.int .i64 1)))),none⟩,⟨some 11,.mov (.s 24),none⟩])))
def spec_coRanked_L0 : IC :=
 (.seq (.ops [⟨some 17,.nxt (.s 16),none⟩,⟨some 18,.ext (.s 17) 0,none⟩])
   (.seq (.cond (.s 18)
    (.skip)
    (.exit 0))
   (.block 1
    (.seq (.ops [⟨some 19,.ext (.s 17) 1,none⟩,⟨some 10,.mov (.s 19),none⟩])
    (.seq (.ops [⟨some 11,.mov (.k (.u (.a (.int .i64 0)))),none⟩])
    (.block 2
     (.loop spec_coRanked_L1)))))))
def spec_coRanked : Fn := ⟨[.t 8],
 (.seq (.ops [⟨some 8,.mov (.k (.u (.a (.str [])))),none⟩])
 (.seq (.ops [⟨some 14,.mov (.s 0),none⟩,⟨some 9,.mov (.s 14),none⟩])
 (.seq (.seq (.ops [⟨some 15,.mov (.s 0),none⟩,⟨some 16,.rng (.s 15),none⟩])
 (.block 0
  (.loop spec_coRanked_L0)))
 (.seq (.ops [⟨some 61,.mov (.s 9),none⟩,⟨some 8,.mov (.s 61),none⟩])
 (.ret)))))⟩

def impl_ofRank_L1 : IC :=
 (.seq (.ops [⟨some 33,.bin .lss (.s 32) (.s 31),none⟩])
      (.seq (.cond (.s 33)
       (.skip)
       (.exit 2))
      (.seq (.block 3
       (.seq (.ops [⟨some 34,.mov (.s 32),none⟩,⟨some 13,.mov (.s 34),none⟩])
       (.seq (.ops [⟨some 35,.mov (.s 10),none⟩,⟨some 36,.mov (.s 12),none⟩,⟨some 37,.mov (.s 13),none⟩,⟨some 38,.call 878 [(.s 35),(.s 36),(.s 37)],none⟩,⟨some 14,.mov (.s 38),none⟩])
       (.seq (.ops [⟨some 39,.mov (.s 14),none⟩,⟨some 40,.mov (.s 2),none⟩,⟨some 41,.call 541 [(.s 39),(.s 40)],none⟩,⟨some 15,.mov (.s 41),none⟩])
       (.seq (.seq (.ops [⟨some 42,.mov (.s 3),none⟩,⟨some 43,.mov (.s 15),none⟩,⟨some 44,.bin .lss (.s 42) (.s 43),none⟩])
       (.cond (.s 44)
        (.seq (.ops [⟨some 45,.mov (.s 11),none⟩,⟨some 46,.mov (.s 13),none⟩,⟨some 47,.bin .add (.k (.u (.a (.int .i64 97)))) (.s 46),none⟩,⟨some 48,.cvt .u8 (.s 47),none⟩,⟨some 49,.lit [(.int .u8 0)] 1 [(0,1,(.s 48))],none⟩,⟨some 50,.app 1 1 (.s 45) (.s 49),none⟩,⟨some 51,.mov (.s 14),none⟩,⟨some 11,.mov (.s 50),none⟩,⟨some 10,.mov (.s 51),none⟩])
        (.exit 2))
        (.skip)))
       (.ops [⟨some 52,.mov (.s 3),none⟩,⟨some 53,.mov (.s 15),none⟩,⟨some 54,.bin .sub (.s 52) (.s 53),none⟩,⟨some 3,.mov (.s 54),none⟩]))))))
      (.ops [⟨some 55,.bin .add (.s 32) (.k (.u (.a (.int .i64 1)))),none⟩,⟨some 32,.mov (.s 55),none⟩]))))
def impl_ofRank_L0 : IC :=
 (.seq (.ops [⟨some 29,.bin .lss (.s 28) (.s 27),none⟩])
   (.seq (.cond (.s 29)
    (.skip)
    (.exit 0))
   (.seq (.block 1
    (.seq (.ops [⟨some 30,.mov (.s 28),none⟩,⟨some 12,.mov (.s 30),none⟩])
    (.seq (.ops [⟨some 31,.mov (.s 1),none⟩,⟨some 32,.mov (.k (.u (.a (.int .i64 0)))),none⟩])
    (.block 2
     (.loop impl_ofRank_L1)))))
   (.ops [⟨some 56,.bin .add (.s 28) (.k (.u (.a (.int .i64 1)))),none⟩,⟨some 28,.mov (.s 56),none⟩]))))
def impl_ofRank : Fn := ⟨[.t 8,.t 9],
 (.seq (.ops [⟨some 8,.mov (.k (.u (.a (.str [])))),none⟩,⟨some 9,.mov (.k (.u (.a (.bool false)))),none⟩])
 (.seq (.ops [⟨some 16,.mov (.s 0),none⟩,⟨some 17,.mov (.s 1),none⟩,⟨some 18,.call 540 [(.s 16),(.s 17)],none⟩,⟨some 19,.lit [(.int .u8 0)] 0 [],none⟩,⟨some 10,.mov (.s 18),none⟩,⟨some 11,.mov (.s 19),none⟩])
 (.seq (.seq (.ops [⟨some 20,.mov (.s 3),none⟩,⟨some 21,.mov (.s 10),none⟩,⟨some 22,.mov (.s 2),none⟩,⟨some 23,.call 541 [(.s 21),(.s 22)],none⟩,⟨some 24,.bin .sub (.s 23) (.k (.u (.a (.int .i64 1)))),none⟩,⟨some 25,.call 597 [(.s 20),(.k (.u (.a (.int .i64 0)))),(.s 24)],none⟩,⟨some 26,.not (.s 25),none⟩])
 (.cond (.s 26)
  (.seq (.ops [⟨some 8,.mov (.k (.u (.a (.str [])))),none⟩,⟨some 9,.mov (.k (.u (.a (.bool false)))),none⟩])
  (.ret))
  (.skip)))
 (.seq (.seq (.ops [⟨some 27,.mov (.s 0),none⟩,⟨some 28,.mov (.k (.u (.a (.int .i64 0)))),none⟩])
 (.block 0
  (.loop impl_ofRank_L0)))
 (.seq (.ops [⟨some 57,.mov (.s 11),none⟩,⟨some 58,.b2s (.s 57),none⟩,⟨some 8,.mov (.s 58),none⟩,⟨some 9,.mov (.k (.u (.a (.bool true)))),none⟩])
 (.ret))))))⟩

def spec_coFence : Fn := ⟨[.t 4],
 (.seq (.ops [⟨some 4,.mov (.k (.u (.a (.bool false)))),none⟩])
 (.seq (.ops [⟨some 5,.mov (.s 0),none⟩,⟨some 6,.call 715 [(.s 5)],none⟩,⟨some 7,.mov (.s 6),none⟩,⟨some 8,.mov (.s 0),some (7,true)⟩,⟨some 9,.lens (.s 8),some (7,true)⟩,⟨some 10,.mov (.s 1),some (7,true)⟩,⟨some 11,.call 874 [(.s 9),(.s 10)],some (7,true)⟩,⟨some 12,.pick (.s 7) (.s 11) (.k (.u (.a (.bool false)))),none⟩,⟨some 4,.mov (.s 12),none⟩])
 (.ret)))⟩

def spec_coTints : Fn := ⟨[.t 2],
 (.seq (.ops [⟨some 2,.mov (.k (.u (.a (.bool false)))),none⟩])
 (.seq (.ops [⟨some 3,.mov (.s 0),none⟩,⟨some 4,.call 598 [(.s 3),(.k (.u (.a (.int .i64 1)))),(.k (.u (.a (.int .i64 5))))],none⟩,⟨some 2,.mov (.s 4),none⟩])
 (.ret)))⟩

def spec_coFewest_L0 : IC :=
 (.seq (.ops [⟨some 19,.nxt (.s 18),none⟩,⟨some 20,.ext (.s 19) 0,none⟩])
   (.seq (.cond (.s 20)
    (.skip)
    (.exit 0))
   (.block 1
    (.seq (.ops [⟨some 21,.ext (.s 19) 1,none⟩,⟨some 10,.mov (.s 21),none⟩])
    (.seq (.dops [⟨⟨some 22,.mov (.s 1),none⟩,[]⟩,⟨⟨some 23,.mov (.s 10),none⟩,[]⟩,⟨⟨some 24,.ixs (.s 22) (.s 23),none⟩,[]⟩,⟨⟨some 25,.mov (.s 0),none⟩,[]⟩,⟨⟨some 26,.mov (.s 10),none⟩,[]⟩,⟨⟨some 27,.ixs (.s 25) (.s 26),none⟩,[]⟩,⟨⟨some 28,.bin .neq (.s 24) (.s 27),none⟩,[]⟩])
    (.cond (.s 28)
     (.ops [⟨some 29,.mov (.s 9),none⟩,⟨some 30,.bin .add (.s 29) (.k (.u (.a (.int .i64 1)))),none⟩,⟨some 9,.mov (.s 30),none⟩])
     (.skip)))))))
def spec_coFewest_L1 : IC :=
 (.seq (.seq (.ops [⟨some 61,.mov (.s 15),none⟩,⟨some 62,.mov (.s 2),none⟩,⟨some 63,.bin .lss (.s 61) (.s 62),none⟩])
   (.cond (.s 63)
    (.skip)
    (.exit 2)))
   (.seq (.block 3
    (.seq (.ops [⟨some 66,.mov (.s 0),none⟩,⟨some 67,.mov (.s 15),none⟩,⟨some 68,.mov (.s 15),none⟩,⟨some 69,.bin .add (.s 68) (.k (.u (.a (.int .i64 1)))),none⟩,⟨some 70,.sstr (.k (.u (.a (.str [97,98,99,100,101])))) (some (.s 67)) (some (.s 69)),none⟩,⟨some 71,.mov (.s 2),none⟩,⟨some 72,.mov (.s 3),none⟩,⟨some 73,.call 559 [(.s 66),(.s 70),(.s 71),(.s 72)],none⟩,⟨some 16,.mov (.s 73),none⟩])
    (.seq (.ops [⟨some 74,.mov (.s 16),none⟩,⟨some 75,.bin .geq (.s 74) (.k (.u (.a (.int .i64 0)))),none⟩,⟨some 76,.mov (.s 75),none⟩,⟨some 77,.mov (.s 14),some (76,true)⟩,⟨some 78,.bin .lss (.s 77) (.k (.u (.a (.int .i64 0)))),some (76,true)⟩,⟨some 79,.mov (.s 78),some (76,true)⟩,⟨some 80,.mov (.s 16),some (79,false)⟩,⟨some 81,.mov (.s 14),some (79,false)⟩,⟨some 82,.bin .lss (.s 80) (.s 81),some (79,false)⟩,⟨some 83,.pick (.s 79) (.k (.u (.a (.bool true)))) (.s 82),some (76,true)⟩,⟨some 84,.pick (.s 76) (.s 83) (.k (.u (.a (.bool false)))),none⟩])
    (.cond (.s 84)
     (.ops [⟨some 85,.mov (.s 16),none⟩,⟨some 14,.mov (.s 85),none⟩])
     (.skip)))))
   (.ops [⟨some 64,.mov (.s 15),none⟩,⟨some 65,.bin .add (.s 64) (.k (.u (.a (.int .i64 1)))),none⟩,⟨some 15,.mov (.s 65),none⟩])))
def spec_coFewest : Fn := ⟨[.t 8],
 (.seq (.ops [⟨some 8,.mov (.k (.u (.a (.int .i64 0)))),none⟩])
 (.seq (.ops [⟨some 9,.mov (.k (.u (.a (.int .i64 0)))),none⟩])
 (.seq (.seq (.ops [⟨some 17,.mov (.s 1),none⟩,⟨some 18,.rng (.s 17),none⟩])
 (.block 0
  (.loop spec_coFewest_L0)))
 (.seq (.ops [⟨some 11,.mov (.k (.u (.a (.int .i64 (-1))))),none⟩])
 (.seq (.seq (.ops [⟨some 31,.mov (.s 1),none⟩,⟨some 32,.lens (.s 31),none⟩,⟨some 12,.mov (.s 32),none⟩])
 (.seq (.ops [⟨some 33,.mov (.s 12),none⟩,⟨some 34,.bin .gtr (.s 33) (.k (.u (.a (.int .i64 0)))),none⟩])
 (.cond (.s 34)
  (.seq (.seq (.ops [⟨some 35,.mov (.s 3),none⟩])
  (.cond (.s 35)
   (.ops [⟨some 36,.mov (.s 1),none⟩,⟨some 37,.ixs (.s 36) (.k (.u (.a (.int .i64 0)))),none⟩,⟨some 38,.bin .sub (.s 37) (.k (.u (.a (.int .u8 97)))),none⟩,⟨some 39,.cvt .i64 (.s 38),none⟩,⟨some 11,.mov (.s 39),none⟩])
   (.skip)))
  (.seq (.ops [⟨some 40,.mov (.s 0),none⟩,⟨some 41,.mov (.s 2),none⟩,⟨some 42,.mov (.s 12),none⟩,⟨some 43,.mov (.s 1),none⟩,⟨some 44,.mov (.s 12),none⟩,⟨some 45,.bin .sub (.s 44) (.k (.u (.a (.int .i64 1)))),none⟩,⟨some 46,.ixs (.s 43) (.s 45),none⟩,⟨some 47,.bin .sub (.s 46) (.k (.u (.a (.int .u8 97)))),none⟩,⟨some 48,.cvt .i64 (.s 47),none⟩,⟨some 49,.mov (.s 11),none⟩,⟨some 50,.call 892 [(.s 40),(.s 41),(.s 42),(.s 48),(.s 49)],none⟩,⟨some 13,.mov (.s 50),none⟩])
  (.seq (.seq (.ops [⟨some 51,.mov (.s 13),none⟩,⟨some 52,.bin .lss (.s 51) (.k (.u (.a (.int .i64 0)))),none⟩])
  (.cond (.s 52)
   (.seq (.ops [⟨some 8,.mov (.k (.u (.a (.int .i64 (-1))))),none⟩])
   (.ret))
   (.skip)))
  (.seq (.ops [⟨some 53,.mov (.s 9),none⟩,⟨some 54,.mov (.s 13),none⟩,⟨some 55,.bin .add (.s 53) (.s 54),none⟩,⟨some 8,.mov (.s 55),none⟩])
  (.ret)))))
  (.skip))))
 (.seq (.seq (.ops [⟨some 56,.mov (.s 3),none⟩,⟨some 57,.not (.s 56),none⟩])
 (.cond (.s 57)
  (.seq (.ops [⟨some 58,.mov (.s 0),none⟩,⟨some 59,.mov (.s 2),none⟩,⟨some 60,.call 892 [(.s 58),(.s 59),(.k (.u (.a (.int .i64 0)))),(.k (.u (.a (.int .i64 (-1))))),(.k (.u (.a (.int .i64 (-1)))))],none⟩,⟨some 8,.mov (.s 60),none⟩])
  (.ret))
  (.skip)))
 (.seq (.ops [⟨some 14,.mov (.k (.u (.a (.int .i64 (-1))))),none⟩])
 (.seq (.seq (.ops [⟨some 15,.mov (.k (.u (.a (.int .i64 0)))),none⟩])
 (.block 2
  (.loop spec_coFewest_L1)))
 (.seq (.ops [⟨some 86,.mov (.s 14),none⟩,⟨some 8,.mov (.s 86),none⟩])
 (.ret))))))))))⟩

def impl_isFilled : Fn := ⟨[.t 6],
 (.seq (.ops [⟨some 6,.mov (.k (.u (.a (.bool false)))),none⟩])
 (.seq (.ops [⟨some 7,.mov (.s 0),none⟩,⟨some 8,.mov (.s 2),none⟩,⟨some 9,.call 584 [(.s 7),(.s 8)],none⟩,⟨some 10,.mov (.s 9),none⟩,⟨some 11,.mov (.s 1),some (10,true)⟩,⟨some 12,.call 585 [(.s 11)],some (10,true)⟩,⟨some 13,.pick (.s 10) (.s 12) (.k (.u (.a (.bool false)))),none⟩,⟨some 6,.mov (.s 13),none⟩])
 (.ret)))⟩

def impl_repainted_L1 : IC :=
 (.seq (.ops [⟨some 19,.bin .lss (.s 18) (.s 17),none⟩])
      (.seq (.cond (.s 19)
       (.skip)
       (.exit 2))
      (.seq (.block 3
       (.seq (.ops [⟨some 20,.mov (.s 18),none⟩,⟨some 7,.mov (.s 20),none⟩])
       (.seq (.ops [⟨some 21,.mov (.s 0),none⟩,⟨some 22,.mov (.s 6),none⟩,⟨some 23,.ixs (.s 21) (.s 22),none⟩,⟨some 24,.mov (.s 7),none⟩,⟨some 25,.bin .add (.k (.u (.a (.int .i64 97)))) (.s 24),none⟩,⟨some 26,.cvt .u8 (.s 25),none⟩,⟨some 27,.bin .neq (.s 23) (.s 26),none⟩])
       (.cond (.s 27)
        (.ops [⟨some 28,.mov (.s 5),none⟩,⟨some 29,.mov (.s 6),none⟩,⟨some 30,.mov (.s 7),none⟩,⟨some 31,.ia 5 (.s 28) (.s 29),none⟩,⟨some 32,.iap 5 1 (.s 31) (.s 30),none⟩,⟨none,.store 1 (.s 32) (.k (.u (.a (.int .i64 1)))),none⟩])
        (.skip)))))
      (.ops [⟨some 33,.bin .add (.s 18) (.k (.u (.a (.int .i64 1)))),none⟩,⟨some 18,.mov (.s 33),none⟩]))))
def impl_repainted_L0 : IC :=
 (.seq (.ops [⟨some 15,.bin .lss (.s 14) (.s 13),none⟩])
   (.seq (.cond (.s 15)
    (.skip)
    (.exit 0))
   (.seq (.block 1
    (.seq (.ops [⟨some 16,.mov (.s 14),none⟩,⟨some 6,.mov (.s 16),none⟩])
    (.seq (.ops [⟨some 17,.mov (.s 1),none⟩,⟨some 18,.mov (.k (.u (.a (.int .i64 0)))),none⟩])
    (.block 2
     (.loop impl_repainted_L1)))))
   (.ops [⟨some 34,.bin .add (.s 14) (.k (.u (.a (.int .i64 1)))),none⟩,⟨some 14,.mov (.s 34),none⟩]))))
def impl_repainted : Fn := ⟨[.t 4],
 (.seq (.ops [⟨some 4,.mov (.k (.u (.a .nils))),none⟩])
 (.seq (.ops [⟨some 8,.mov (.s 0),none⟩,⟨some 9,.lens (.s 8),none⟩,⟨some 10,.mov (.s 1),none⟩,⟨some 11,.call 540 [(.s 9),(.s 10)],none⟩,⟨some 5,.mov (.s 11),none⟩])
 (.seq (.seq (.ops [⟨some 12,.mov (.s 5),none⟩,⟨some 13,.len (.s 12),none⟩,⟨some 14,.mov (.k (.u (.a (.int .i64 0)))),none⟩])
 (.block 0
  (.loop impl_repainted_L0)))
 (.seq (.ops [⟨some 35,.mov (.s 5),none⟩,⟨some 4,.mov (.s 35),none⟩])
 (.ret)))))⟩

def impl_table_look_L0 : IC :=
 (.seq (.ops [⟨some 18,.bin .lss (.s 17) (.k (.u (.a (.int .i64 5)))),none⟩])
   (.seq (.cond (.s 18)
    (.skip)
    (.exit 0))
   (.seq (.block 1
    (.seq (.ops [⟨some 19,.mov (.s 17),none⟩,⟨some 8,.mov (.s 19),none⟩])
    (.seq (.ops [⟨some 21,.mov (.s 0),none⟩,⟨some 22,.mov (.s 8),none⟩,⟨some 23,.call 878 [(.s 21),(.k (.u (.a (.int .i64 0)))),(.s 22)],none⟩,⟨some 24,.mov (.s 8),none⟩,⟨some 25,.call 893 [(.s 23),(.s 24)],none⟩,⟨some 20,.mov (.s 25),none⟩,⟨some 26,.ext (.s 20) 0,none⟩,⟨some 27,.ext (.s 20) 1,none⟩,⟨some 9,.mov (.s 26),none⟩,⟨some 10,.mov (.s 27),none⟩])
    (.ops [⟨some 28,.mov (.s 6),none⟩,⟨some 29,.mov (.s 9),none⟩,⟨some 30,.bin .add (.s 28) (.s 29),none⟩,⟨some 31,.mov (.s 7),none⟩,⟨some 32,.mov (.s 10),none⟩,⟨some 33,.mn (.s 31) (.s 32),none⟩,⟨some 6,.mov (.s 30),none⟩,⟨some 7,.mov (.s 33),none⟩]))))
   (.ops [⟨some 34,.bin .add (.s 17) (.k (.u (.a (.int .i64 1)))),none⟩,⟨some 17,.mov (.s 34),none⟩]))))
def impl_table_look : Fn := ⟨[.t 4,.t 5],
 (.seq (.ops [⟨some 4,.mov (.k (.u (.a (.int .i64 0)))),none⟩,⟨some 5,.mov (.k (.u (.a (.int .i64 0)))),none⟩])
 (.seq (.seq (.ops [⟨some 11,.mov (.s 1),none⟩,⟨some 12,.not (.s 11),none⟩])
 (.cond (.s 12)
  (.seq (.ops [⟨some 13,.mov (.s 0),none⟩,⟨some 14,.call 893 [(.s 13),(.k (.u (.a (.int .i64 (-1)))))],none⟩,⟨some 15,.ext (.s 14) 0,none⟩,⟨some 16,.ext (.s 14) 1,none⟩,⟨some 4,.mov (.s 15),none⟩,⟨some 5,.mov (.s 16),none⟩])
  (.ret))
  (.skip)))
 (.seq (.ops [⟨some 6,.mov (.k (.u (.a (.int .i64 0)))),none⟩,⟨some 7,.mov (.k (.u (.a (.int .i64 1099511627776)))),none⟩])
 (.seq (.seq (.ops [⟨some 17,.mov (.k (.u (.a (.int .i64 0)))),none⟩])
 (.block 0
  (.loop impl_table_look_L0)))
 (.seq (.ops [⟨some 35,.mov (.s 6),none⟩,⟨some 36,.mov (.s 7),none⟩,⟨some 4,.mov (.s 35),none⟩,⟨some 5,.mov (.s 36),none⟩])
 (.ret))))))⟩

def spec_coFills : Fn := ⟨[.t 6],
 (.seq (.ops [⟨some 6,.mov (.k (.u (.a (.int .i64 0)))),none⟩])
 (.seq (.seq (.ops [⟨some 7,.mov (.s 0),none⟩,⟨some 8,.mov (.s 1),none⟩,⟨some 9,.call 894 [(.s 7),(.s 8)],none⟩,⟨some 10,.not (.s 9),none⟩])
 (.cond (.s 10)
  (.seq (.ops [⟨some 6,.mov (.k (.u (.a (.int .i64 0)))),none⟩])
  (.ret))
  (.skip)))
 (.seq (.ops [⟨some 11,.mov (.s 0),none⟩,⟨some 12,.mov (.s 1),none⟩,⟨some 13,.mov (.s 2),none⟩,⟨some 14,.call 537 [(.s 11),(.s 12),(.s 13),(.k (.u (.a (.int .i64 0))))],none⟩,⟨some 6,.mov (.s 14),none⟩])
 (.ret))))⟩

def impl_filled_L0 : IC :=
 (.seq (.ops [⟨some 14,.bin .lss (.s 13) (.s 12),none⟩])
   (.seq (.cond (.s 14)
    (.skip)
    (.exit 0))
   (.seq (.block 1
    (.seq (.ops [⟨some 15,.mov (.s 13),none⟩,⟨some 6,.mov (.s 15),none⟩])
    (.seq (.ops [⟨some 16,.mov (.s 0),none⟩,⟨some 17,.mov (.s 6),none⟩,⟨some 18,.ixs (.s 16) (.s 17),none⟩,⟨some 19,.bin .neq (.s 18) (.k (.u (.a (.int .u8 46)))),none⟩])
    (.cond (.s 19)
     (.ops [⟨some 20,.mov (.s 5),none⟩,⟨some 21,.mov (.s 6),none⟩,⟨some 22,.mov (.s 0),none⟩,⟨some 23,.mov (.s 6),none⟩,⟨some 24,.ixs (.s 22) (.s 23),none⟩,⟨some 25,.bin .sub (.s 24) (.k (.u (.a (.int .u8 97)))),none⟩,⟨some 26,.cvt .i64 (.s 25),none⟩,⟨some 27,.call 878 [(.s 20),(.s 21),(.s 26)],none⟩,⟨some 5,.mov (.s 27),none⟩])
     (.skip)))))
   (.ops [⟨some 28,.bin .add (.s 13) (.k (.u (.a (.int .i64 1)))),none⟩,⟨some 13,.mov (.s 28),none⟩]))))
def impl_filled : Fn := ⟨[.t 4],
 (.seq (.ops [⟨some 4,.mov (.k (.u (.a .nils))),none⟩])
 (.seq (.ops [⟨some 7,.mov (.s 0),none⟩,⟨some 8,.lens (.s 7),none⟩,⟨some 9,.mov (.s 1),none⟩,⟨some 10,.call 540 [(.s 8),(.s 9)],none⟩,⟨some 5,.mov (.s 10),none⟩])
 (.seq (.seq (.ops [⟨some 11,.mov (.s 5),none⟩,⟨some 12,.len (.s 11),none⟩,⟨some 13,.mov (.k (.u (.a (.int .i64 0)))),none⟩])
 (.block 0
  (.loop impl_filled_L0)))
 (.seq (.ops [⟨some 29,.mov (.s 5),none⟩,⟨some 4,.mov (.s 29),none⟩])
 (.ret)))))⟩

def spec_coCosts_L0 : IC :=
 (.seq (.ops [⟨some 12,.bin .lss (.s 11) (.s 10),none⟩])
   (.seq (.cond (.s 12)
    (.skip)
    (.exit 0))
   (.seq (.block 1
    (.seq (.ops [⟨some 13,.ia 1 (.s 9) (.s 11),none⟩,⟨some 14,.load false 1 (.s 13),none⟩,⟨some 4,.mov (.s 14),none⟩])
    (.seq (.ops [⟨some 15,.mov (.s 4),none⟩,⟨some 16,.len (.s 15),none⟩,⟨some 17,.call 558 [(.s 16)],none⟩,⟨some 18,.not (.s 17),none⟩,⟨some 19,.mov (.s 18),none⟩,⟨some 20,.mov (.s 4),some (19,false)⟩,⟨some 21,.len (.s 20),some (19,false)⟩,⟨some 22,.mov (.s 0),some (19,false)⟩,⟨some 23,.ia 1 (.s 22) (.k (.u (.a (.int .i64 0)))),some (19,false)⟩,⟨some 24,.load false 1 (.s 23),some (19,false)⟩,⟨some 25,.len (.s 24),some (19,false)⟩,⟨some 26,.bin .neq (.s 21) (.s 25),some (19,false)⟩,⟨some 27,.pick (.s 19) (.k (.u (.a (.bool true)))) (.s 26),none⟩,⟨some 28,.mov (.s 27),none⟩,⟨some 29,.mov (.s 4),some (28,false)⟩,⟨some 30,.call 628 [(.s 29),(.k (.u (.a (.int .i64 0)))),(.k (.u (.a (.int .i64 100))))],some (28,false)⟩,⟨some 31,.not (.s 30),some (28,false)⟩,⟨some 32,.pick (.s 28) (.k (.u (.a (.bool true)))) (.s 31),none⟩])
    (.cond (.s 32)
     (.seq (.ops [⟨some 2,.mov (.k (.u (.a (.bool false)))),none⟩])
     (.ret))
     (.skip)))))
   (.ops [⟨some 33,.bin .add (.s 11) (.k (.u (.a (.int .i64 1)))),none⟩,⟨some 11,.mov (.s 33),none⟩]))))
def spec_coCosts : Fn := ⟨[.t 2],
 (.seq (.ops [⟨some 2,.mov (.k (.u (.a (.bool false)))),none⟩])
 (.seq (.seq (.ops [⟨some 5,.mov (.s 0),none⟩,⟨some 6,.len (.s 5),none⟩,⟨some 7,.call 598 [(.s 6),(.k (.u (.a (.int .i64 1)))),(.k (.u (.a (.int .i64 20))))],none⟩,⟨some 8,.not (.s 7),none⟩])
 (.cond (.s 8)
  (.seq (.ops [⟨some 2,.mov (.k (.u (.a (.bool false)))),none⟩])
  (.ret))
  (.skip)))
 (.seq (.seq (.ops [⟨some 9,.mov (.s 0),none⟩,⟨some 10,.len (.s 9),none⟩,⟨some 11,.mov (.k (.u (.a (.int .i64 0)))),none⟩])
 (.block 0
  (.loop spec_coCosts_L0)))
 (.seq (.ops [⟨some 2,.mov (.k (.u (.a (.bool true)))),none⟩])
 (.ret)))))⟩

def spec_coCheap_L2 : IC :=
 (.seq (.ops [⟨some 46,.bin .lss (.s 45) (.s 44),none⟩])
         (.seq (.cond (.s 46)
          (.skip)
          (.exit 4))
         (.seq (.block 5
          (.seq (.ops [⟨some 47,.mov (.s 45),none⟩,⟨some 48,.ia 1 (.s 43) (.s 45),none⟩,⟨some 49,.load false 1 (.s 48),none⟩,⟨some 9,.mov (.s 47),none⟩,⟨some 10,.mov (.s 49),none⟩])
          (.seq (.dops [⟨⟨some 50,.mov (.s 8),none⟩,[]⟩,⟨⟨some 51,.mov (.s 9),none⟩,[]⟩,⟨⟨some 52,.bin .neq (.s 50) (.s 51),none⟩,[]⟩,⟨⟨some 53,.mov (.s 52),none⟩,[]⟩,⟨⟨some 54,.mov (.s 5),some (53,true)⟩,[]⟩,⟨⟨some 55,.mov (.s 9),some (53,true)⟩,[]⟩,⟨⟨some 56,.ia 1 (.s 54) (.s 55),some (53,true)⟩,[]⟩,⟨⟨some 57,.load false 1 (.s 56),some (53,true)⟩,[]⟩,⟨⟨some 58,.bin .geq (.s 57) (.k (.u (.a (.int .i64 0)))),some (53,true)⟩,[]⟩,⟨⟨some 59,.pick (.s 53) (.s 58) (.k (.u (.a (.bool false)))),none⟩,[]⟩,⟨⟨some 60,.mov (.s 59),none⟩,[]⟩,⟨⟨some 61,.mov (.s 7),some (60,true)⟩,[]⟩,⟨⟨some 62,.mov (.s 8),some (60,true)⟩,[]⟩,⟨⟨some 63,.ia 1 (.s 61) (.s 62),some (60,true)⟩,[]⟩,⟨⟨some 64,.load false 1 (.s 63),some (60,true)⟩,[]⟩,⟨⟨some 65,.bin .lss (.s 64) (.k (.u (.a (.int .i64 0)))),some (60,true)⟩,[]⟩,⟨⟨some 66,.mov (.s 65),some (60,true)⟩,[]⟩,⟨⟨some 67,.mov (.s 5),some (66,false)⟩,[]⟩,⟨⟨some 68,.mov (.s 9),some (66,false)⟩,[]⟩,⟨⟨some 69,.ia 1 (.s 67) (.s 68),some (66,false)⟩,[]⟩,⟨⟨some 70,.load false 1 (.s 69),some (66,false)⟩,[]⟩,⟨⟨some 71,.mov (.s 10),some (66,false)⟩,[]⟩,⟨⟨some 72,.bin .add (.s 70) (.s 71),some (66,false)⟩,[]⟩,⟨⟨some 73,.mov (.s 7),some (66,false)⟩,[]⟩,⟨⟨some 74,.mov (.s 8),some (66,false)⟩,[]⟩,⟨⟨some 75,.ia 1 (.s 73) (.s 74),some (66,false)⟩,[]⟩,⟨⟨some 76,.load false 1 (.s 75),some (66,false)⟩,[]⟩,⟨⟨some 77,.bin .lss (.s 72) (.s 76),some (66,false)⟩,[]⟩,⟨⟨some 78,.pick (.s 66) (.k (.u (.a (.bool true)))) (.s 77),some (60,true)⟩,[]⟩,⟨⟨some 79,.pick (.s 60) (.s 78) (.k (.u (.a (.bool false)))),none⟩,[]⟩])
          (.cond (.s 79)
           (.ops [⟨some 80,.mov (.s 7),none⟩,⟨some 81,.mov (.s 8),none⟩,⟨some 82,.mov (.s 5),none⟩,⟨some 83,.mov (.s 9),none⟩,⟨some 84,.ia 1 (.s 82) (.s 83),none⟩,⟨some 85,.load false 1 (.s 84),none⟩,⟨some 86,.mov (.s 10),none⟩,⟨some 87,.bin .add (.s 85) (.s 86),none⟩,⟨some 88,.ia 1 (.s 80) (.s 81),none⟩,⟨none,.store 1 (.s 88) (.s 87),none⟩])
           (.skip)))))
         (.ops [⟨some 89,.bin .add (.s 45) (.k (.u (.a (.int .i64 1)))),none⟩,⟨some 45,.mov (.s 89),none⟩]))))
def spec_coCheap_L1 : IC :=
 (.seq (.ops [⟨some 35,.bin .lss (.s 34) (.s 33),none⟩])
      (.seq (.cond (.s 35)
       (.skip)
       (.exit 2))
      (.seq (.block 3
       (.seq (.ops [⟨some 36,.mov (.s 34),none⟩,⟨some 8,.mov (.s 36),none⟩])
       (.seq (.ops [⟨some 37,.mov (.s 7),none⟩,⟨some 38,.mov (.s 8),none⟩,⟨some 39,.ia 1 (.s 37) (.s 38),none⟩,⟨none,.store 1 (.s 39) (.k (.u (.a (.int .i64 (-1))))),none⟩])
       (.seq (.ops [⟨some 40,.mov (.s 0),none⟩,⟨some 41,.mov (.s 6),none⟩,⟨some 42,.ia 1 (.s 40) (.s 41),none⟩,⟨some 43,.load false 1 (.s 42),none⟩,⟨some 44,.len (.s 43),none⟩,⟨some 45,.mov (.k (.u (.a (.int .i64 0)))),none⟩])
       (.block 4
        (.loop spec_coCheap_L2))))))
      (.ops [⟨some 90,.bin .add (.s 34) (.k (.u (.a (.int .i64 1)))),none⟩,⟨some 34,.mov (.s 90),none⟩]))))
def spec_coCheap_L3 : IC :=
 (.seq (.ops [⟨some 102,.bin .lss (.s 101) (.s 100),none⟩])
       (.seq (.cond (.s 102)
        (.skip)
        (.exit 6))
       (.seq (.block 7
        (.seq (.ops [⟨some 103,.mov (.s 101),none⟩,⟨some 104,.ia 1 (.s 99) (.s 101),none⟩,⟨some 105,.load false 1 (.s 104),none⟩,⟨some 12,.mov (.s 103),none⟩,⟨some 13,.mov (.s 105),none⟩])
        (.seq (.ops [⟨some 106,.mov (.s 5),none⟩,⟨some 107,.mov (.s 12),none⟩,⟨some 108,.ia 1 (.s 106) (.s 107),none⟩,⟨some 109,.load false 1 (.s 108),none⟩,⟨some 110,.bin .geq (.s 109) (.k (.u (.a (.int .i64 0)))),none⟩,⟨some 111,.mov (.s 110),none⟩,⟨some 112,.mov (.s 11),some (111,true)⟩,⟨some 113,.bin .lss (.s 112) (.k (.u (.a (.int .i64 0)))),some (111,true)⟩,⟨some 114,.mov (.s 113),some (111,true)⟩,⟨some 115,.mov (.s 5),some (114,false)⟩,⟨some 116,.mov (.s 12),some (114,false)⟩,⟨some 117,.ia 1 (.s 115) (.s 116),some (114,false)⟩,⟨some 118,.load false 1 (.s 117),some (114,false)⟩,⟨some 119,.mov (.s 13),some (114,false)⟩,⟨some 120,.bin .add (.s 118) (.s 119),some (114,false)⟩,⟨some 121,.mov (.s 11),some (114,false)⟩,⟨some 122,.bin .lss (.s 120) (.s 121),some (114,false)⟩,⟨some 123,.pick (.s 114) (.k (.u (.a (.bool true)))) (.s 122),some (111,true)⟩,⟨some 124,.pick (.s 111) (.s 123) (.k (.u (.a (.bool false)))),none⟩])
        (.cond (.s 124)
         (.ops [⟨some 125,.mov (.s 5),none⟩,⟨some 126,.mov (.s 12),none⟩,⟨some 127,.ia 1 (.s 125) (.s 126),none⟩,⟨some 128,.load false 1 (.s 127),none⟩,⟨some 129,.mov (.s 13),none⟩,⟨some 130,.bin .add (.s 128) (.s 129),none⟩,⟨some 11,.mov (.s 130),none⟩])
         (.skip)))))
       (.ops [⟨some 131,.bin .add (.s 101) (.k (.u (.a (.int .i64 1)))),none⟩,⟨some 101,.mov (.s 131),none⟩]))))
def spec_coCheap_L0 : IC :=
 (.seq (.seq (.ops [⟨some 25,.mov (.s 6),none⟩,⟨some 26,.bin .geq (.s 25) (.k (.u (.a (.int .i64 0)))),none⟩])
   (.cond (.s 26)
    (.skip)
    (.exit 0)))
   (.seq (.block 1
    (.seq (.ops [⟨some 29,.mov (.s 5),none⟩,⟨some 30,.len (.s 29),none⟩,⟨some 31,.mk [(.int .i64 0)] 8 (.s 30) (.s 30),none⟩,⟨some 7,.mov (.s 31),none⟩])
    (.seq (.seq (.ops [⟨some 32,.mov (.s 7),none⟩,⟨some 33,.len (.s 32),none⟩,⟨some 34,.mov (.k (.u (.a (.int .i64 0)))),none⟩])
    (.block 2
     (.loop spec_coCheap_L1)))
    (.seq (.seq (.ops [⟨some 91,.mov (.s 6),none⟩,⟨some 92,.bin .eql (.s 91) (.k (.u (.a (.int .i64 0)))),none⟩,⟨some 93,.mov (.s 92),none⟩,⟨some 94,.mov (.s 1),some (93,true)⟩,⟨some 95,.bin .lss (.s 94) (.k (.u (.a (.int .i64 0)))),some (93,true)⟩,⟨some 96,.pick (.s 93) (.s 95) (.k (.u (.a (.bool false)))),none⟩])
    (.cond (.s 96)
     (.seq (.ops [⟨some 11,.mov (.k (.u (.a (.int .i64 (-1))))),none⟩])
     (.seq (.seq (.ops [⟨some 97,.mov (.s 0),none⟩,⟨some 98,.ia 1 (.s 97) (.k (.u (.a (.int .i64 0)))),none⟩,⟨some 99,.load false 1 (.s 98),none⟩,⟨some 100,.len (.s 99),none⟩,⟨some 101,.mov (.k (.u (.a (.int .i64 0)))),none⟩])
     (.block 6
      (.loop spec_coCheap_L3)))
     (.seq (.ops [⟨some 132,.mov (.s 11),none⟩,⟨some 4,.mov (.s 132),none⟩])
     (.ret))))
     (.skip)))
    (.ops [⟨some 133,.mov (.s 7),none⟩,⟨some 5,.mov (.s 133),none⟩])))))
   (.ops [⟨some 27,.mov (.s 6),none⟩,⟨some 28,.bin .sub (.s 27) (.k (.u (.a (.int .i64 1)))),none⟩,⟨some 6,.mov (.s 28),none⟩])))
def spec_coCheap : Fn := ⟨[.t 4],
 (.seq (.ops [⟨some 4,.mov (.k (.u (.a (.int .i64 0)))),none⟩])
 (.seq (.seq (.ops [⟨some 14,.mov (.s 0),none⟩,⟨some 15,.len (.s 14),none⟩,⟨some 16,.bin .eql (.s 15) (.k (.u (.a (.int .i64 0)))),none⟩])
 (.cond (.s 16)
  (.seq (.ops [⟨some 4,.mov (.k (.u (.a (.int .i64 0)))),none⟩])
  (.ret))
  (.skip)))
 (.seq (.ops [⟨some 17,.mov (.s 0),none⟩,⟨some 18,.ia 1 (.s 17) (.k (.u (.a (.int .i64 0)))),none⟩,⟨some 19,.load false 1 (.s 18),none⟩,⟨some 20,.len (.s 19),none⟩,⟨some 21,.mk [(.int .i64 0)] 8 (.s 20) (.s 20),none⟩,⟨some 5,.mov (.s 21),none⟩])
 (.seq (.seq (.ops [⟨some 22,.mov (.s 0),none⟩,⟨some 23,.len (.s 22),none⟩,⟨some 24,.bin .sub (.s 23) (.k (.u (.a (.int .i64 1)))),none⟩,⟨some 6,.mov (.s 24),none⟩])
 (.block 0
  (.loop spec_coCheap_L0)))
 (.seq (.ops [⟨some 134,.mov (.s 5),none⟩,⟨some 135,.mov (.s 1),none⟩,⟨some 136,.ia 1 (.s 134) (.s 135),none⟩,⟨some 137,.load false 1 (.s 136),none⟩,⟨some 4,.mov (.s 137),none⟩])
 (.ret))))))⟩

def impl_costed_L0 : IC :=
 (.seq (.ops [⟨some 29,.bin .lss (.s 28) (.s 27),none⟩])
   (.seq (.cond (.s 29)
    (.skip)
    (.exit 0))
   (.seq (.block 1
    (.seq (.ops [⟨some 30,.mov (.s 28),none⟩,⟨some 31,.ia 1 (.s 26) (.s 28),none⟩,⟨some 32,.load false 1 (.s 31),none⟩,⟨some 5,.mov (.s 30),none⟩,⟨some 6,.mov (.s 32),none⟩])
    (.seq (.seq (.ops [⟨some 33,.mov (.s 6),none⟩,⟨some 34,.len (.s 33),none⟩,⟨some 35,.mov (.s 0),none⟩,⟨some 36,.ia 1 (.s 35) (.k (.u (.a (.int .i64 0)))),none⟩,⟨some 37,.load false 1 (.s 36),none⟩,⟨some 38,.len (.s 37),none⟩,⟨some 39,.bin .neq (.s 34) (.s 38),none⟩,⟨some 40,.mov (.s 39),none⟩,⟨some 41,.mov (.s 6),some (40,false)⟩,⟨some 42,.call 617 [(.s 41),(.k (.u (.a (.int .i64 0)))),(.k (.u (.a (.int .i64 100))))],some (40,false)⟩,⟨some 43,.not (.s 42),some (40,false)⟩,⟨some 44,.pick (.s 40) (.k (.u (.a (.bool true)))) (.s 43),none⟩])
    (.cond (.s 44)
     (.seq (.ops [⟨some 2,.mov (.k (.u (.a .nils))),none⟩,⟨some 3,.mov (.k (.u (.a (.bool false)))),none⟩])
     (.ret))
     (.skip)))
    (.ops [⟨some 45,.mov (.s 4),none⟩,⟨some 46,.mov (.s 5),none⟩,⟨some 47,.ia 5 (.s 45) (.s 46),none⟩,⟨some 48,.sarr 5 1 (.s 47) none none,none⟩,⟨some 49,.mov (.s 6),none⟩,⟨some 50,.cpy 1 (.s 48) (.s 49),none⟩]))))
   (.ops [⟨some 51,.bin .add (.s 28) (.k (.u (.a (.int .i64 1)))),none⟩,⟨some 28,.mov (.s 51),none⟩]))))
def impl_costed : Fn := ⟨[.t 2,.t 3],
 (.seq (.ops [⟨some 2,.mov (.k (.u (.a .nils))),none⟩,⟨some 3,.mov (.k (.u (.a (.bool false)))),none⟩])
 (.seq (.seq (.ops [⟨some 7,.mov (.s 0),none⟩,⟨some 8,.len (.s 7),none⟩,⟨some 9,.call 877 [(.s 8),(.k (.u (.a (.bool false))))],none⟩,⟨some 10,.not (.s 9),none⟩,⟨some 11,.mov (.s 10),none⟩,⟨some 12,.mov (.s 0),some (11,false)⟩,⟨some 13,.ia 1 (.s 12) (.k (.u (.a (.int .i64 0)))),some (11,false)⟩,⟨some 14,.load false 1 (.s 13),some (11,false)⟩,⟨some 15,.len (.s 14),some (11,false)⟩,⟨some 16,.call 585 [(.s 15)],some (11,false)⟩,⟨some 17,.not (.s 16),some (11,false)⟩,⟨some 18,.pick (.s 11) (.k (.u (.a (.bool true)))) (.s 17),none⟩])
 (.cond (.s 18)
  (.seq (.ops [⟨some 2,.mov (.k (.u (.a .nils))),none⟩,⟨some 3,.mov (.k (.u (.a (.bool false)))),none⟩])
  (.ret))
  (.skip)))
 (.seq (.ops [⟨some 19,.mov (.s 0),none⟩,⟨some 20,.len (.s 19),none⟩,⟨some 21,.mov (.s 0),none⟩,⟨some 22,.ia 1 (.s 21) (.k (.u (.a (.int .i64 0)))),none⟩,⟨some 23,.load false 1 (.s 22),none⟩,⟨some 24,.len (.s 23),none⟩,⟨some 25,.call 540 [(.s 20),(.s 24)],none⟩,⟨some 4,.mov (.s 25),none⟩])
 (.seq (.seq (.ops [⟨some 26,.mov (.s 0),none⟩,⟨some 27,.len (.s 26),none⟩,⟨some 28,.mov (.k (.u (.a (.int .i64 0)))),none⟩])
 (.block 0
  (.loop impl_costed_L0)))
 (.seq (.ops [⟨some 52,.mov (.s 4),none⟩,⟨some 2,.mov (.s 52),none⟩,⟨some 3,.mov (.k (.u (.a (.bool true)))),none⟩])
 (.ret))))))⟩

def impl_areLong : Fn := ⟨[.t 2],
 (.seq (.ops [⟨some 2,.mov (.k (.u (.a (.bool false)))),none⟩])
 (.seq (.ops [⟨some 3,.mov (.s 0),none⟩,⟨some 4,.call 617 [(.s 3),(.k (.u (.a (.int .i64 1)))),(.k (.u (.a (.int .i64 500))))],none⟩,⟨some 2,.mov (.s 4),none⟩])
 (.ret)))⟩

def spec_coHas_L0 : IC :=
 (.seq (.ops [⟨some 14,.nxt (.s 13),none⟩,⟨some 15,.ext (.s 14) 0,none⟩])
   (.seq (.cond (.s 15)
    (.skip)
    (.exit 0))
   (.block 1
    (.seq (.ops [⟨some 16,.ext (.s 14) 1,none⟩,⟨some 7,.mov (.s 16),none⟩])
    (.seq (.ops [⟨some 17,.mov (.s 0),none⟩,⟨some 18,.mov (.s 7),none⟩,⟨some 19,.ixs (.s 17) (.s 18),none⟩,⟨some 20,.bin .sub (.s 19) (.k (.u (.a (.int .u8 97)))),none⟩,⟨some 21,.cvt .i64 (.s 20),none⟩,⟨some 22,.mov (.s 1),none⟩,⟨some 23,.bin .geq (.s 21) (.s 22),none⟩])
    (.cond (.s 23)
     (.seq (.ops [⟨some 6,.mov (.k (.u (.a (.bool false)))),none⟩])
     (.ret))
     (.skip)))))))
def spec_coHas : Fn := ⟨[.t 6],
 (.seq (.ops [⟨some 6,.mov (.k (.u (.a (.bool false)))),none⟩])
 (.seq (.seq (.ops [⟨some 8,.mov (.s 0),none⟩,⟨some 9,.mov (.s 2),none⟩,⟨some 10,.call 680 [(.s 8),(.s 9)],none⟩,⟨some 11,.not (.s 10),none⟩])
 (.cond (.s 11)
  (.seq (.ops [⟨some 6,.mov (.k (.u (.a (.bool false)))),none⟩])
  (.ret))
  (.skip)))
 (.seq (.seq (.ops [⟨some 12,.mov (.s 0),none⟩,⟨some 13,.rng (.s 12),none⟩])
 (.block 0
  (.loop spec_coHas_L0)))
 (.seq (.ops [⟨some 6,.mov (.k (.u (.a (.bool true)))),none⟩])
 (.ret)))))⟩

def spec_coRank_L1 : IC :=
 (.seq (.seq (.ops [⟨some 25,.mov (.s 11),none⟩,⟨some 26,.mov (.s 10),none⟩,⟨some 27,.bin .lss (.s 25) (.s 26),none⟩])
      (.cond (.s 27)
       (.skip)
       (.exit 2)))
      (.seq (.block 3
       (.seq (.ops [⟨some 30,.mov (.s 9),none⟩,⟨some 31,.bin .eql (.s 30) (.k (.u (.a (.int .i64 0)))),none⟩,⟨some 32,.mov (.s 31),none⟩,⟨some 33,.mov (.s 0),some (32,false)⟩,⟨some 34,.mov (.s 9),some (32,false)⟩,⟨some 35,.bin .sub (.s 34) (.k (.u (.a (.int .i64 1)))),some (32,false)⟩,⟨some 36,.ixs (.s 33) (.s 35),some (32,false)⟩,⟨some 37,.bin .sub (.s 36) (.k (.u (.a (.int .u8 97)))),some (32,false)⟩,⟨some 38,.cvt .i64 (.s 37),some (32,false)⟩,⟨some 39,.mov (.s 11),some (32,false)⟩,⟨some 40,.bin .neq (.s 38) (.s 39),some (32,false)⟩,⟨some 41,.pick (.s 32) (.k (.u (.a (.bool true)))) (.s 40),none⟩])
       (.cond (.s 41)
        (.ops [⟨some 42,.mov (.s 7),none⟩,⟨some 43,.mov (.s 8),none⟩,⟨some 44,.mov (.s 9),none⟩,⟨some 45,.mov (.s 11),none⟩,⟨some 46,.call 891 [(.s 43),(.s 44),(.s 45)],none⟩,⟨some 47,.mov (.s 1),none⟩,⟨some 48,.mov (.s 2),none⟩,⟨some 49,.mov (.s 9),none⟩,⟨some 50,.bin .add (.s 49) (.k (.u (.a (.int .i64 1)))),none⟩,⟨some 51,.call 537 [(.s 46),(.s 47),(.s 48),(.s 50)],none⟩,⟨some 52,.bin .add (.s 42) (.s 51),none⟩,⟨some 7,.mov (.s 52),none⟩])
        (.skip))))
      (.ops [⟨some 28,.mov (.s 11),none⟩,⟨some 29,.bin .add (.s 28) (.k (.u (.a (.int .i64 1)))),none⟩,⟨some 11,.mov (.s 29),none⟩])))
def spec_coRank_L0 : IC :=
 (.seq (.ops [⟨some 17,.nxt (.s 16),none⟩,⟨some 18,.ext (.s 17) 0,none⟩])
   (.seq (.cond (.s 18)
    (.skip)
    (.exit 0))
   (.block 1
    (.seq (.ops [⟨some 19,.ext (.s 17) 1,none⟩,⟨some 9,.mov (.s 19),none⟩])
    (.seq (.ops [⟨some 20,.mov (.s 0),none⟩,⟨some 21,.mov (.s 9),none⟩,⟨some 22,.ixs (.s 20) (.s 21),none⟩,⟨some 23,.bin .sub (.s 22) (.k (.u (.a (.int .u8 97)))),none⟩,⟨some 24,.cvt .i64 (.s 23),none⟩,⟨some 10,.mov (.s 24),none⟩])
    (.seq (.seq (.ops [⟨some 11,.mov (.k (.u (.a (.int .i64 0)))),none⟩])
    (.block 2
     (.loop spec_coRank_L1)))
    (.ops [⟨some 53,.mov (.s 8),none⟩,⟨some 54,.mov (.s 9),none⟩,⟨some 55,.mov (.s 10),none⟩,⟨some 56,.call 891 [(.s 53),(.s 54),(.s 55)],none⟩,⟨some 8,.mov (.s 56),none⟩])))))))
def spec_coRank : Fn := ⟨[.t 6],
 (.seq (.ops [⟨some 6,.mov (.k (.u (.a (.int .i64 0)))),none⟩])
 (.seq (.ops [⟨some 7,.mov (.k (.u (.a (.int .i64 0)))),none⟩])
 (.seq (.ops [⟨some 12,.mov (.s 0),none⟩,⟨some 13,.lens (.s 12),none⟩,⟨some 14,.call 538 [(.s 13)],none⟩,⟨some 8,.mov (.s 14),none⟩])
 (.seq (.seq (.ops [⟨some 15,.mov (.s 0),none⟩,⟨some 16,.rng (.s 15),none⟩])
 (.block 0
  (.loop spec_coRank_L0)))
 (.seq (.ops [⟨some 57,.mov (.s 7),none⟩,⟨some 6,.mov (.s 57),none⟩])
 (.ret))))))⟩

def impl_isStood : Fn := ⟨[.t 4],
 (.seq (.ops [⟨some 4,.mov (.k (.u (.a (.bool false)))),none⟩])
 (.seq (.ops [⟨some 5,.mov (.s 0),none⟩,⟨some 6,.call 315 [(.s 5)],none⟩,⟨some 7,.mov (.s 6),none⟩,⟨some 8,.mov (.s 0),some (7,true)⟩,⟨some 9,.lens (.s 8),some (7,true)⟩,⟨some 10,.mov (.s 1),some (7,true)⟩,⟨some 11,.call 877 [(.s 9),(.s 10)],some (7,true)⟩,⟨some 12,.pick (.s 7) (.s 11) (.k (.u (.a (.bool false)))),none⟩,⟨some 4,.mov (.s 12),none⟩])
 (.ret)))⟩

def impl_isTints : Fn := ⟨[.t 2],
 (.seq (.ops [⟨some 2,.mov (.k (.u (.a (.bool false)))),none⟩])
 (.seq (.ops [⟨some 3,.mov (.s 0),none⟩,⟨some 4,.call 597 [(.s 3),(.k (.u (.a (.int .i64 1)))),(.k (.u (.a (.int .i64 5))))],none⟩,⟨some 2,.mov (.s 4),none⟩])
 (.ret)))⟩

def impl_isProper_L0 : IC :=
 (.seq (.ops [⟨some 9,.bin .lss (.s 8) (.s 7),none⟩])
   (.seq (.cond (.s 9)
    (.skip)
    (.exit 0))
   (.seq (.block 1
    (.seq (.ops [⟨some 10,.mov (.s 8),none⟩,⟨some 5,.mov (.s 10),none⟩])
    (.seq (.dops [⟨⟨some 11,.mov (.s 0),none⟩,[]⟩,⟨⟨some 12,.mov (.s 5),none⟩,[]⟩,⟨⟨some 13,.ixs (.s 11) (.s 12),none⟩,[]⟩,⟨⟨some 14,.bin .eql (.s 13) (.k (.u (.a (.int .u8 46)))),none⟩,[]⟩,⟨⟨some 15,.mov (.s 14),none⟩,[]⟩,⟨⟨some 16,.mov (.s 5),some (15,false)⟩,[]⟩,⟨⟨some 17,.bin .gtr (.s 16) (.k (.u (.a (.int .i64 0)))),some (15,false)⟩,[]⟩,⟨⟨some 18,.mov (.s 17),some (15,false)⟩,[]⟩,⟨⟨some 19,.mov (.s 0),some (18,true)⟩,[]⟩,⟨⟨some 20,.mov (.s 5),some (18,true)⟩,[]⟩,⟨⟨some 21,.ixs (.s 19) (.s 20),some (18,true)⟩,[]⟩,⟨⟨some 22,.mov (.s 0),some (18,true)⟩,[]⟩,⟨⟨some 23,.mov (.s 5),some (18,true)⟩,[]⟩,⟨⟨some 24,.bin .sub (.s 23) (.k (.u (.a (.int .i64 1)))),some (18,true)⟩,[]⟩,⟨⟨some 25,.ixs (.s 22) (.s 24),some (18,true)⟩,[]⟩,⟨⟨some 26,.bin .eql (.s 21) (.s 25),some (18,true)⟩,[]⟩,⟨⟨some 27,.pick (.s 18) (.s 26) (.k (.u (.a (.bool false)))),some (15,false)⟩,[]⟩,⟨⟨some 28,.pick (.s 15) (.k (.u (.a (.bool true)))) (.s 27),none⟩,[]⟩])
    (.cond (.s 28)
     (.seq (.ops [⟨some 4,.mov (.k (.u (.a (.bool false)))),none⟩])
     (.ret))
     (.skip)))))
   (.ops [⟨some 29,.bin .add (.s 8) (.k (.u (.a (.int .i64 1)))),none⟩,⟨some 8,.mov (.s 29),none⟩]))))
def impl_isProper : Fn := ⟨[.t 4],
 (.seq (.ops [⟨some 4,.mov (.k (.u (.a (.bool false)))),none⟩])
 (.seq (.seq (.ops [⟨some 6,.mov (.s 0),none⟩,⟨some 7,.lens (.s 6),none⟩,⟨some 8,.mov (.k (.u (.a (.int .i64 0)))),none⟩])
 (.block 0
  (.loop impl_isProper_L0)))
 (.seq (.dops [⟨⟨some 30,.mov (.s 1),none⟩,[]⟩,⟨⟨some 31,.not (.s 30),none⟩,[]⟩,⟨⟨some 32,.mov (.s 31),none⟩,[]⟩,⟨⟨some 33,.mov (.s 0),some (32,false)⟩,[]⟩,⟨⟨some 34,.ixs (.s 33) (.k (.u (.a (.int .i64 0)))),some (32,false)⟩,[]⟩,⟨⟨some 35,.mov (.s 0),some (32,false)⟩,[]⟩,⟨⟨some 36,.mov (.s 0),some (32,false)⟩,[]⟩,⟨⟨some 37,.lens (.s 36),some (32,false)⟩,[]⟩,⟨⟨some 38,.bin .sub (.s 37) (.k (.u (.a (.int .i64 1)))),some (32,false)⟩,[]⟩,⟨⟨some 39,.ixs (.s 35) (.s 38),some (32,false)⟩,[]⟩,⟨⟨some 40,.bin .neq (.s 34) (.s 39),some (32,false)⟩,[]⟩,⟨⟨some 41,.pick (.s 32) (.k (.u (.a (.bool true)))) (.s 40),none⟩,[]⟩,⟨⟨some 4,.mov (.s 41),none⟩,[]⟩])
 (.ret))))⟩

def impl_rank_L1 : IC :=
 (.seq (.ops [⟨some 32,.bin .lss (.s 31) (.s 30),none⟩])
      (.seq (.cond (.s 32)
       (.skip)
       (.exit 2))
      (.seq (.block 3
       (.seq (.ops [⟨some 33,.mov (.s 31),none⟩,⟨some 12,.mov (.s 33),none⟩])
       (.ops [⟨some 34,.mov (.s 9),none⟩,⟨some 35,.mov (.s 8),none⟩,⟨some 36,.mov (.s 10),none⟩,⟨some 37,.mov (.s 12),none⟩,⟨some 38,.call 878 [(.s 35),(.s 36),(.s 37)],none⟩,⟨some 39,.mov (.s 2),none⟩,⟨some 40,.call 541 [(.s 38),(.s 39)],none⟩,⟨some 41,.bin .add (.s 34) (.s 40),none⟩,⟨some 9,.mov (.s 41),none⟩])))
      (.ops [⟨some 42,.bin .add (.s 31) (.k (.u (.a (.int .i64 1)))),none⟩,⟨some 31,.mov (.s 42),none⟩]))))
def impl_rank_L0 : IC :=
 (.seq (.ops [⟨some 20,.bin .lss (.s 19) (.s 18),none⟩])
   (.seq (.cond (.s 20)
    (.skip)
    (.exit 0))
   (.seq (.block 1
    (.seq (.ops [⟨some 21,.mov (.s 19),none⟩,⟨some 10,.mov (.s 21),none⟩])
    (.seq (.ops [⟨some 22,.mov (.s 0),none⟩,⟨some 23,.mov (.s 10),none⟩,⟨some 24,.ixs (.s 22) (.s 23),none⟩,⟨some 25,.bin .sub (.s 24) (.k (.u (.a (.int .u8 97)))),none⟩,⟨some 26,.cvt .i64 (.s 25),none⟩,⟨some 11,.mov (.s 26),none⟩])
    (.seq (.seq (.ops [⟨some 27,.mov (.s 11),none⟩,⟨some 28,.mov (.s 1),none⟩,⟨some 29,.bin .geq (.s 27) (.s 28),none⟩])
    (.cond (.s 29)
     (.seq (.ops [⟨some 6,.mov (.k (.u (.a (.int .i64 0)))),none⟩,⟨some 7,.mov (.k (.u (.a (.bool false)))),none⟩])
     (.ret))
     (.skip)))
    (.seq (.seq (.ops [⟨some 30,.mov (.s 11),none⟩,⟨some 31,.mov (.k (.u (.a (.int .i64 0)))),none⟩])
    (.block 2
     (.loop impl_rank_L1)))
    (.ops [⟨some 43,.mov (.s 8),none⟩,⟨some 44,.mov (.s 10),none⟩,⟨some 45,.mov (.s 11),none⟩,⟨some 46,.call 878 [(.s 43),(.s 44),(.s 45)],none⟩,⟨some 8,.mov (.s 46),none⟩]))))))
   (.ops [⟨some 47,.bin .add (.s 19) (.k (.u (.a (.int .i64 1)))),none⟩,⟨some 19,.mov (.s 47),none⟩]))))
def impl_rank : Fn := ⟨[.t 6,.t 7],
 (.seq (.ops [⟨some 6,.mov (.k (.u (.a (.int .i64 0)))),none⟩,⟨some 7,.mov (.k (.u (.a (.bool false)))),none⟩])
 (.seq (.ops [⟨some 13,.mov (.s 0),none⟩,⟨some 14,.lens (.s 13),none⟩,⟨some 15,.mov (.s 1),none⟩,⟨some 16,.call 540 [(.s 14),(.s 15)],none⟩,⟨some 8,.mov (.s 16),none⟩,⟨some 9,.mov (.k (.u (.a (.int .i64 0)))),none⟩])
 (.seq (.seq (.ops [⟨some 17,.mov (.s 8),none⟩,⟨some 18,.len (.s 17),none⟩,⟨some 19,.mov (.k (.u (.a (.int .i64 0)))),none⟩])
 (.block 0
  (.loop impl_rank_L0)))
 (.seq (.ops [⟨some 48,.mov (.s 9),none⟩,⟨some 6,.mov (.s 48),none⟩,⟨some 7,.mov (.k (.u (.a (.bool true)))),none⟩])
 (.ret)))))⟩

def spec_coLists_L1 : IC :=
 (.seq (.ops [⟨some 27,.bin .lss (.s 26) (.s 25),none⟩])
      (.seq (.cond (.s 27)
       (.skip)
       (.exit 2))
      (.seq (.block 3
       (.seq (.ops [⟨some 28,.mov (.s 26),none⟩,⟨some 5,.mov (.s 28),none⟩])
       (.seq (.dops [⟨⟨some 29,.mov (.s 4),none⟩,[]⟩,⟨⟨some 30,.mov (.s 5),none⟩,[]⟩,⟨⟨some 31,.ixs (.s 29) (.s 30),none⟩,[]⟩,⟨⟨some 32,.bin .lss (.s 31) (.k (.u (.a (.int .u8 97)))),none⟩,[]⟩,⟨⟨some 33,.mov (.s 32),none⟩,[]⟩,⟨⟨some 34,.mov (.s 4),some (33,false)⟩,[]⟩,⟨⟨some 35,.mov (.s 5),some (33,false)⟩,[]⟩,⟨⟨some 36,.ixs (.s 34) (.s 35),some (33,false)⟩,[]⟩,⟨⟨some 37,.bin .gtr (.s 36) (.k (.u (.a (.int .u8 101)))),some (33,false)⟩,[]⟩,⟨⟨some 38,.pick (.s 33) (.k (.u (.a (.bool true)))) (.s 37),none⟩,[]⟩,⟨⟨some 39,.mov (.s 38),none⟩,[]⟩,⟨⟨some 40,.mov (.s 5),some (39,false)⟩,[]⟩,⟨⟨some 41,.bin .gtr (.s 40) (.k (.u (.a (.int .i64 0)))),some (39,false)⟩,[]⟩,⟨⟨some 42,.mov (.s 41),some (39,false)⟩,[]⟩,⟨⟨some 43,.mov (.s 4),some (42,true)⟩,[]⟩,⟨⟨some 44,.mov (.s 5),some (42,true)⟩,[]⟩,⟨⟨some 45,.ixs (.s 43) (.s 44),some (42,true)⟩,[]⟩,⟨⟨some 46,.mov (.s 4),some (42,true)⟩,[]⟩,⟨⟨some 47,.mov (.s 5),some (42,true)⟩,[]⟩,⟨⟨some 48,.bin .sub (.s 47) (.k (.u (.a (.int .i64 1)))),some (42,true)⟩,[]⟩,⟨⟨some 49,.ixs (.s 46) (.s 48),some (42,true)⟩,[]⟩,⟨⟨some 50,.bin .leq (.s 45) (.s 49),some (42,true)⟩,[]⟩,⟨⟨some 51,.pick (.s 42) (.s 50) (.k (.u (.a (.bool false)))),some (39,false)⟩,[]⟩,⟨⟨some 52,.pick (.s 39) (.k (.u (.a (.bool true)))) (.s 51),none⟩,[]⟩])
       (.cond (.s 52)
        (.seq (.ops [⟨some 2,.mov (.k (.u (.a (.bool false)))),none⟩])
        (.ret))
        (.skip)))))
      (.ops [⟨some 53,.bin .add (.s 26) (.k (.u (.a (.int .i64 1)))),none⟩,⟨some 26,.mov (.s 53),none⟩]))))
def spec_coLists_L0 : IC :=
 (.seq (.ops [⟨some 13,.bin .lss (.s 12) (.s 11),none⟩])
   (.seq (.cond (.s 13)
    (.skip)
    (.exit 0))
   (.seq (.block 1
    (.seq (.ops [⟨some 14,.ia 1 (.s 10) (.s 12),none⟩,⟨some 15,.load false 1 (.s 14),none⟩,⟨some 4,.mov (.s 15),none⟩])
    (.seq (.seq (.ops [⟨some 16,.mov (.s 4),none⟩,⟨some 17,.lens (.s 16),none⟩,⟨some 18,.bin .eql (.s 17) (.k (.u (.a (.int .i64 0)))),none⟩,⟨some 19,.mov (.s 18),none⟩,⟨some 20,.mov (.s 4),some (19,false)⟩,⟨some 21,.lens (.s 20),some (19,false)⟩,⟨some 22,.bin .gtr (.s 21) (.k (.u (.a (.int .i64 5)))),some (19,false)⟩,⟨some 23,.pick (.s 19) (.k (.u (.a (.bool true)))) (.s 22),none⟩])
    (.cond (.s 23)
     (.seq (.ops [⟨some 2,.mov (.k (.u (.a (.bool false)))),none⟩])
     (.ret))
     (.skip)))
    (.seq (.ops [⟨some 24,.mov (.s 4),none⟩,⟨some 25,.lens (.s 24),none⟩,⟨some 26,.mov (.k (.u (.a (.int .i64 0)))),none⟩])
    (.block 2
     (.loop spec_coLists_L1))))))
   (.ops [⟨some 54,.bin .add (.s 12) (.k (.u (.a (.int .i64 1)))),none⟩,⟨some 12,.mov (.s 54),none⟩]))))
def spec_coLists : Fn := ⟨[.t 2],
 (.seq (.ops [⟨some 2,.mov (.k (.u (.a (.bool false)))),none⟩])
 (.seq (.seq (.ops [⟨some 6,.mov (.s 0),none⟩,⟨some 7,.len (.s 6),none⟩,⟨some 8,.call 598 [(.s 7),(.k (.u (.a (.int .i64 1)))),(.k (.u (.a (.int .i64 20))))],none⟩,⟨some 9,.not (.s 8),none⟩])
 (.cond (.s 9)
  (.seq (.ops [⟨some 2,.mov (.k (.u (.a (.bool false)))),none⟩])
  (.ret))
  (.skip)))
 (.seq (.seq (.ops [⟨some 10,.mov (.s 0),none⟩,⟨some 11,.len (.s 10),none⟩,⟨some 12,.mov (.k (.u (.a (.int .i64 0)))),none⟩])
 (.block 0
  (.loop spec_coLists_L0)))
 (.seq (.ops [⟨some 2,.mov (.k (.u (.a (.bool true)))),none⟩])
 (.ret)))))⟩

def spec_coListed_L2 : IC :=
 (.seq (.seq (.ops [⟨some 27,.mov (.s 9),none⟩,⟨some 28,.mov (.s 0),none⟩,⟨some 29,.mov (.s 6),none⟩,⟨some 30,.ia 1 (.s 28) (.s 29),none⟩,⟨some 31,.load false 1 (.s 30),none⟩,⟨some 32,.lens (.s 31),none⟩,⟨some 33,.bin .lss (.s 27) (.s 32),none⟩])
         (.cond (.s 33)
          (.skip)
          (.exit 4)))
         (.seq (.block 5
          (.seq (.ops [⟨some 36,.mov (.s 0),none⟩,⟨some 37,.mov (.s 6),none⟩,⟨some 38,.ia 1 (.s 36) (.s 37),none⟩,⟨some 39,.load false 1 (.s 38),none⟩,⟨some 40,.mov (.s 9),none⟩,⟨some 41,.ixs (.s 39) (.s 40),none⟩,⟨some 42,.bin .sub (.s 41) (.k (.u (.a (.int .u8 97)))),none⟩,⟨some 43,.cvt .i64 (.s 42),none⟩,⟨some 10,.mov (.s 43),none⟩])
          (.seq (.ops [⟨some 44,.mov (.s 8),none⟩,⟨some 45,.mov (.s 10),none⟩,⟨some 46,.bin .neq (.s 44) (.s 45),none⟩])
          (.cond (.s 46)
           (.dops [⟨⟨some 47,.mov (.s 7),none⟩,[]⟩,⟨⟨some 48,.mov (.s 8),none⟩,[]⟩,⟨⟨some 49,.ia 1 (.s 47) (.s 48),none⟩,[]⟩,⟨⟨some 50,.load false 1 (.s 49),none⟩,[]⟩,⟨⟨some 51,.mov (.s 5),none⟩,[]⟩,⟨⟨some 52,.mov (.s 10),none⟩,[]⟩,⟨⟨some 53,.ia 1 (.s 51) (.s 52),none⟩,[]⟩,⟨⟨some 54,.load false 1 (.s 53),none⟩,[]⟩,⟨⟨some 55,.bin .add (.s 50) (.s 54),none⟩,[]⟩,⟨⟨some 56,.ia 1 (.s 47) (.s 48),none⟩,[]⟩,⟨⟨none,.store 1 (.s 56) (.s 55),none⟩,[]⟩])
           (.skip)))))
         (.ops [⟨some 34,.mov (.s 9),none⟩,⟨some 35,.bin .add (.s 34) (.k (.u (.a (.int .i64 1)))),none⟩,⟨some 9,.mov (.s 35),none⟩])))
def spec_coListed_L1 : IC :=
 (.seq (.ops [⟨some 25,.bin .lss (.s 24) (.s 23),none⟩])
      (.seq (.cond (.s 25)
       (.skip)
       (.exit 2))
      (.seq (.block 3
       (.seq (.ops [⟨some 26,.mov (.s 24),none⟩,⟨some 8,.mov (.s 26),none⟩])
       (.seq (.ops [⟨some 9,.mov (.k (.u (.a (.int .i64 0)))),none⟩])
       (.block 4
        (.loop spec_coListed_L2)))))
      (.ops [⟨some 57,.bin .add (.s 24) (.k (.u (.a (.int .i64 1)))),none⟩,⟨some 24,.mov (.s 57),none⟩]))))
def spec_coListed_L0 : IC :=
 (.seq (.seq (.ops [⟨some 17,.mov (.s 6),none⟩,⟨some 18,.bin .gtr (.s 17) (.k (.u (.a (.int .i64 0)))),none⟩])
   (.cond (.s 18)
    (.skip)
    (.exit 0)))
   (.seq (.block 1
    (.seq (.ops [⟨some 21,.mk [(.int .i64 0)] 8 (.k (.u (.a (.int .i64 5)))) (.k (.u (.a (.int .i64 5)))),none⟩,⟨some 7,.mov (.s 21),none⟩])
    (.seq (.seq (.ops [⟨some 22,.mov (.s 7),none⟩,⟨some 23,.len (.s 22),none⟩,⟨some 24,.mov (.k (.u (.a (.int .i64 0)))),none⟩])
    (.block 2
     (.loop spec_coListed_L1)))
    (.ops [⟨some 58,.mov (.s 7),none⟩,⟨some 5,.mov (.s 58),none⟩]))))
   (.ops [⟨some 19,.mov (.s 6),none⟩,⟨some 20,.bin .sub (.s 19) (.k (.u (.a (.int .i64 1)))),none⟩,⟨some 6,.mov (.s 20),none⟩])))
def spec_coListed_L3 : IC :=
 (.seq (.seq (.ops [⟨some 62,.mov (.s 12),none⟩,⟨some 63,.mov (.s 0),none⟩,⟨some 64,.ia 1 (.s 63) (.k (.u (.a (.int .i64 0)))),none⟩,⟨some 65,.load false 1 (.s 64),none⟩,⟨some 66,.lens (.s 65),none⟩,⟨some 67,.bin .lss (.s 62) (.s 66),none⟩])
   (.cond (.s 67)
    (.skip)
    (.exit 6)))
   (.seq (.block 7
    (.seq (.ops [⟨some 70,.mov (.s 0),none⟩,⟨some 71,.ia 1 (.s 70) (.k (.u (.a (.int .i64 0)))),none⟩,⟨some 72,.load false 1 (.s 71),none⟩,⟨some 73,.mov (.s 12),none⟩,⟨some 74,.ixs (.s 72) (.s 73),none⟩,⟨some 75,.mov (.s 1),none⟩,⟨some 76,.bin .neq (.s 74) (.s 75),none⟩])
    (.cond (.s 76)
     (.ops [⟨some 77,.mov (.s 11),none⟩,⟨some 78,.mov (.s 5),none⟩,⟨some 79,.mov (.s 0),none⟩,⟨some 80,.ia 1 (.s 79) (.k (.u (.a (.int .i64 0)))),none⟩,⟨some 81,.load false 1 (.s 80),none⟩,⟨some 82,.mov (.s 12),none⟩,⟨some 83,.ixs (.s 81) (.s 82),none⟩,⟨some 84,.bin .sub (.s 83) (.k (.u (.a (.int .u8 97)))),none⟩,⟨some 85,.ia 1 (.s 78) (.s 84),none⟩,⟨some 86,.load false 1 (.s 85),none⟩,⟨some 87,.bin .add (.s 77) (.s 86),none⟩,⟨some 11,.mov (.s 87),none⟩])
     (.skip))))
   (.ops [⟨some 68,.mov (.s 12),none⟩,⟨some 69,.bin .add (.s 68) (.k (.u (.a (.int .i64 1)))),none⟩,⟨some 12,.mov (.s 69),none⟩])))
def spec_coListed : Fn := ⟨[.t 4],
 (.seq (.ops [⟨some 4,.mov (.k (.u (.a (.int .i64 0)))),none⟩])
 (.seq (.ops [⟨some 13,.lit [(.int .i64 0)] 5 [(0,1,(.k (.u (.a (.int .i64 1))))),(1,1,(.k (.u (.a (.int .i64 1))))),(2,1,(.k (.u (.a (.int .i64 1))))),(3,1,(.k (.u (.a (.int .i64 1))))),(4,1,(.k (.u (.a (.int .i64 1)))))],none⟩,⟨some 5,.mov (.s 13),none⟩])
 (.seq (.seq (.ops [⟨some 14,.mov (.s 0),none⟩,⟨some 15,.len (.s 14),none⟩,⟨some 16,.bin .sub (.s 15) (.k (.u (.a (.int .i64 1)))),none⟩,⟨some 6,.mov (.s 16),none⟩])
 (.block 0
  (.loop spec_coListed_L0)))
 (.seq (.seq (.ops [⟨some 59,.mov (.s 0),none⟩,⟨some 60,.len (.s 59),none⟩,⟨some 61,.bin .eql (.s 60) (.k (.u (.a (.int .i64 0)))),none⟩])
 (.cond (.s 61)
  (.seq (.ops [⟨some 4,.mov (.k (.u (.a (.int .i64 1)))),none⟩])
  (.ret))
  (.skip)))
 (.seq (.ops [⟨some 11,.mov (.k (.u (.a (.int .i64 0)))),none⟩])
 (.seq (.seq (.ops [⟨some 12,.mov (.k (.u (.a (.int .i64 0)))),none⟩])
 (.block 6
  (.loop spec_coListed_L3)))
 (.seq (.ops [⟨some 88,.mov (.s 11),none⟩,⟨some 4,.mov (.s 88),none⟩])
 (.ret))))))))⟩

def impl_listed_L1 : IC :=
 (.seq (.ops [⟨some 26,.bin .lss (.s 25) (.k (.u (.a (.int .i64 5)))),none⟩])
      (.seq (.cond (.s 26)
       (.skip)
       (.exit 2))
      (.seq (.block 3
       (.seq (.ops [⟨some 27,.mov (.s 25),none⟩,⟨some 7,.mov (.s 27),none⟩])
       (.seq (.ops [⟨some 28,.mov (.s 6),none⟩,⟨some 29,.mov (.s 7),none⟩,⟨some 30,.mov (.s 7),none⟩,⟨some 31,.bin .add (.s 30) (.k (.u (.a (.int .i64 1)))),none⟩,⟨some 32,.sstr (.k (.u (.a (.str [97,98,99,100,101])))) (some (.s 29)) (some (.s 31)),none⟩,⟨some 33,.call 551 [(.s 28),(.s 32)],none⟩,⟨some 34,.not (.s 33),none⟩])
       (.cond (.s 34)
        (.ops [⟨some 35,.mov (.s 4),none⟩,⟨some 36,.mov (.s 5),none⟩,⟨some 37,.mov (.s 7),none⟩,⟨some 38,.ia 5 (.s 35) (.s 36),none⟩,⟨some 39,.iap 5 1 (.s 38) (.s 37),none⟩,⟨none,.store 1 (.s 39) (.k (.u (.a (.int .i64 1099511627776)))),none⟩])
        (.skip)))))
      (.ops [⟨some 40,.bin .add (.s 25) (.k (.u (.a (.int .i64 1)))),none⟩,⟨some 25,.mov (.s 40),none⟩]))))
def impl_listed_L0 : IC :=
 (.seq (.ops [⟨some 18,.bin .lss (.s 17) (.s 16),none⟩])
   (.seq (.cond (.s 18)
    (.skip)
    (.exit 0))
   (.seq (.block 1
    (.seq (.ops [⟨some 19,.mov (.s 17),none⟩,⟨some 20,.ia 1 (.s 15) (.s 17),none⟩,⟨some 21,.load false 1 (.s 20),none⟩,⟨some 5,.mov (.s 19),none⟩,⟨some 6,.mov (.s 21),none⟩])
    (.seq (.seq (.ops [⟨some 22,.mov (.s 6),none⟩,⟨some 23,.call 896 [(.s 22)],none⟩,⟨some 24,.not (.s 23),none⟩])
    (.cond (.s 24)
     (.seq (.ops [⟨some 2,.mov (.k (.u (.a .nils))),none⟩,⟨some 3,.mov (.k (.u (.a (.bool false)))),none⟩])
     (.ret))
     (.skip)))
    (.seq (.ops [⟨some 25,.mov (.k (.u (.a (.int .i64 0)))),none⟩])
    (.block 2
     (.loop impl_listed_L1))))))
   (.ops [⟨some 41,.bin .add (.s 17) (.k (.u (.a (.int .i64 1)))),none⟩,⟨some 17,.mov (.s 41),none⟩]))))
def impl_listed : Fn := ⟨[.t 2,.t 3],
 (.seq (.ops [⟨some 2,.mov (.k (.u (.a .nils))),none⟩,⟨some 3,.mov (.k (.u (.a (.bool false)))),none⟩])
 (.seq (.seq (.ops [⟨some 8,.mov (.s 0),none⟩,⟨some 9,.len (.s 8),none⟩,⟨some 10,.call 877 [(.s 9),(.k (.u (.a (.bool false))))],none⟩,⟨some 11,.not (.s 10),none⟩])
 (.cond (.s 11)
  (.seq (.ops [⟨some 2,.mov (.k (.u (.a .nils))),none⟩,⟨some 3,.mov (.k (.u (.a (.bool false)))),none⟩])
  (.ret))
  (.skip)))
 (.seq (.ops [⟨some 12,.mov (.s 0),none⟩,⟨some 13,.len (.s 12),none⟩,⟨some 14,.call 540 [(.s 13),(.k (.u (.a (.int .i64 5))))],none⟩,⟨some 4,.mov (.s 14),none⟩])
 (.seq (.seq (.ops [⟨some 15,.mov (.s 0),none⟩,⟨some 16,.len (.s 15),none⟩,⟨some 17,.mov (.k (.u (.a (.int .i64 0)))),none⟩])
 (.block 0
  (.loop impl_listed_L0)))
 (.seq (.ops [⟨some 42,.mov (.s 4),none⟩,⟨some 2,.mov (.s 42),none⟩,⟨some 3,.mov (.k (.u (.a (.bool true)))),none⟩])
 (.ret))))))⟩

def impl_within : Fn := ⟨[.t 6],
 (.seq (.ops [⟨some 6,.mov (.k (.u (.a (.bool false)))),none⟩])
 (.seq (.ops [⟨some 7,.mov (.s 0),none⟩,⟨some 8,.mov (.s 1),none⟩,⟨some 9,.bin .geq (.s 7) (.s 8),none⟩,⟨some 10,.mov (.s 9),none⟩,⟨some 11,.mov (.s 0),some (10,true)⟩,⟨some 12,.mov (.s 2),some (10,true)⟩,⟨some 13,.bin .leq (.s 11) (.s 12),some (10,true)⟩,⟨some 14,.pick (.s 10) (.s 13) (.k (.u (.a (.bool false)))),none⟩,⟨some 6,.mov (.s 14),none⟩])
 (.ret)))⟩

def spec_l1In : Fn := ⟨[.t 6],
 (.seq (.ops [⟨some 6,.mov (.k (.u (.a (.bool false)))),none⟩])
 (.seq (.ops [⟨some 7,.mov (.s 0),none⟩,⟨some 8,.mov (.s 1),none⟩,⟨some 9,.bin .geq (.s 7) (.s 8),none⟩,⟨some 10,.mov (.s 9),none⟩,⟨some 11,.mov (.s 0),some (10,true)⟩,⟨some 12,.mov (.s 2),some (10,true)⟩,⟨some 13,.bin .leq (.s 11) (.s 12),some (10,true)⟩,⟨some 14,.pick (.s 10) (.s 13) (.k (.u (.a (.bool false)))),none⟩,⟨some 6,.mov (.s 14),none⟩])
 (.ret)))⟩

def impl_allWithin : Fn := ⟨[.t 6],
 (.seq (.ops [⟨some 4,.box (.s 1),none⟩,⟨some 5,.box (.s 2),none⟩,⟨some 6,.mov (.k (.u (.a (.bool false)))),none⟩])
 (.seq (.ops [⟨some 7,.mov (.s 0),none⟩,⟨some 8,.fnv 907 [(.s 4),(.s 5)],none⟩,⟨some 9,.call 906 [(.s 7),(.s 8)],none⟩,⟨some 10,.not (.s 9),none⟩,⟨some 6,.mov (.s 10),none⟩])
 (.ret)))⟩

def spec_l1All_L0 : IC :=
 (.seq (.ops [⟨some 12,.bin .lss (.s 11) (.s 10),none⟩])
   (.seq (.cond (.s 12)
    (.skip)
    (.exit 0))
   (.seq (.block 1
    (.seq (.ops [⟨some 13,.ia 1 (.s 9) (.s 11),none⟩,⟨some 14,.load false 1 (.s 13),none⟩,⟨some 8,.mov (.s 14),none⟩])
    (.seq (.ops [⟨some 15,.mov (.s 8),none⟩,⟨some 16,.mov (.s 1),none⟩,⟨some 17,.mov (.s 2),none⟩,⟨some 18,.call 598 [(.s 15),(.s 16),(.s 17)],none⟩,⟨some 19,.not (.s 18),none⟩])
    (.cond (.s 19)
     (.seq (.ops [⟨some 6,.mov (.k (.u (.a (.bool false)))),none⟩])
     (.ret))
     (.skip)))))
   (.ops [⟨some 20,.bin .add (.s 11) (.k (.u (.a (.int .i64 1)))),none⟩,⟨some 11,.mov (.s 20),none⟩]))))
def spec_l1All : Fn := ⟨[.t 6],
 (.seq (.ops [⟨some 6,.mov (.k (.u (.a (.bool false)))),none⟩])
 (.seq (.seq (.ops [⟨some 9,.mov (.s 0),none⟩,⟨some 10,.len (.s 9),none⟩,⟨some 11,.mov (.k (.u (.a (.int .i64 0)))),none⟩])
 (.block 0
  (.loop spec_l1All_L0)))
 (.seq (.ops [⟨some 6,.mov (.k (.u (.a (.bool true)))),none⟩])
 (.ret))))⟩

def spec_caGood : Fn := ⟨[.t 2],
 (.seq (.ops [⟨some 2,.mov (.k (.u (.a (.bool false)))),none⟩])
 (.seq (.ops [⟨some 3,.mov (.s 0),none⟩,⟨some 4,.len (.s 3),none⟩,⟨some 5,.call 598 [(.s 4),(.k (.u (.a (.int .i64 1)))),(.k (.u (.a (.int .i64 20))))],none⟩,⟨some 6,.mov (.s 5),none⟩,⟨some 7,.mov (.s 0),some (6,true)⟩,⟨some 8,.call 628 [(.s 7),(.k (.u (.a (.int .i64 0)))),(.k (.u (.a (.int .i64 50))))],some (6,true)⟩,⟨some 9,.pick (.s 6) (.s 8) (.k (.u (.a (.bool false)))),none⟩,⟨some 2,.mov (.s 9),none⟩])
 (.ret)))⟩

def spec_coProper_L0 : IC :=
 (.seq (.seq (.ops [⟨some 6,.mov (.s 5),none⟩,⟨some 7,.mov (.s 0),none⟩,⟨some 8,.lens (.s 7),none⟩,⟨some 9,.bin .lss (.s 6) (.s 8),none⟩])
   (.cond (.s 9)
    (.skip)
    (.exit 0)))
   (.seq (.block 1
    (.seq (.dops [⟨⟨some 12,.mov (.s 0),none⟩,[]⟩,⟨⟨some 13,.mov (.s 5),none⟩,[]⟩,⟨⟨some 14,.ixs (.s 12) (.s 13),none⟩,[]⟩,⟨⟨some 15,.bin .eql (.s 14) (.k (.u (.a (.int .u8 46)))),none⟩,[]⟩,⟨⟨some 16,.mov (.s 15),none⟩,[]⟩,⟨⟨some 17,.mov (.s 5),some (16,false)⟩,[]⟩,⟨⟨some 18,.bin .gtr (.s 17) (.k (.u (.a (.int .i64 0)))),some (16,false)⟩,[]⟩,⟨⟨some 19,.mov (.s 18),some (16,false)⟩,[]⟩,⟨⟨some 20,.mov (.s 0),some (19,true)⟩,[]⟩,⟨⟨some 21,.mov (.s 5),some (19,true)⟩,[]⟩,⟨⟨some 22,.ixs (.s 20) (.s 21),some (19,true)⟩,[]⟩,⟨⟨some 23,.mov (.s 0),some (19,true)⟩,[]⟩,⟨⟨some 24,.mov (.s 5),some (19,true)⟩,[]⟩,⟨⟨some 25,.bin .sub (.s 24) (.k (.u (.a (.int .i64 1)))),some (19,true)⟩,[]⟩,⟨⟨some 26,.ixs (.s 23) (.s 25),some (19,true)⟩,[]⟩,⟨⟨some 27,.bin .eql (.s 22) (.s 26),some (19,true)⟩,[]⟩,⟨⟨some 28,.pick (.s 19) (.s 27) (.k (.u (.a (.bool false)))),some (16,false)⟩,[]⟩,⟨⟨some 29,.pick (.s 16) (.k (.u (.a (.bool true)))) (.s 28),none⟩,[]⟩])
    (.cond (.s 29)
     (.seq (.ops [⟨some 4,.mov (.k (.u (.a (.bool false)))),none⟩])
     (.ret))
     (.skip))))
   (.ops [⟨some 10,.mov (.s 5),none⟩,⟨some 11,.bin .add (.s 10) (.k (.u (.a (.int .i64 1)))),none⟩,⟨some 5,.mov (.s 11),none⟩])))
def spec_coProper : Fn := ⟨[.t 4],
 (.seq (.ops [⟨some 4,.mov (.k (.u (.a (.bool false)))),none⟩])
 (.seq (.seq (.ops [⟨some 5,.mov (.k (.u (.a (.int .i64 0)))),none⟩])
 (.block 0
  (.loop spec_coProper_L0)))
 (.seq (.dops [⟨⟨some 30,.mov (.s 1),none⟩,[]⟩,⟨⟨some 31,.not (.s 30),none⟩,[]⟩,⟨⟨some 32,.mov (.s 31),none⟩,[]⟩,⟨⟨some 33,.mov (.s 0),some (32,false)⟩,[]⟩,⟨⟨some 34,.ixs (.s 33) (.k (.u (.a (.int .i64 0)))),some (32,false)⟩,[]⟩,⟨⟨some 35,.mov (.s 0),some (32,false)⟩,[]⟩,⟨⟨some 36,.mov (.s 0),some (32,false)⟩,[]⟩,⟨⟨some 37,.lens (.s 36),some (32,false)⟩,[]⟩,⟨⟨some 38,.bin .sub (.s 37) (.k (.u (.a (.int .i64 1)))),some (32,false)⟩,[]⟩,⟨⟨some 39,.ixs (.s 35) (.s 38),some (32,false)⟩,[]⟩,⟨⟨some 40,.bin .neq (.s 34) (.s 39),some (32,false)⟩,[]⟩,⟨⟨some 41,.pick (.s 32) (.k (.u (.a (.bool true)))) (.s 40),none⟩,[]⟩,⟨⟨some 4,.mov (.s 41),none⟩,[]⟩])
 (.ret))))⟩

def laws_markText_L0 : IC :=
 (.seq (.seq (.ops [⟨some 6,.mov (.s 0),none⟩,⟨some 7,.bin .gtr (.s 6) (.k (.u (.a (.int .i64 0)))),none⟩])
   (.cond (.s 7)
    (.skip)
    (.exit 0)))
   (.block 1
    (.seq (.ops [⟨some 8,.mov (.s 0),none⟩,⟨some 9,.bin .rem (.s 8) (.k (.u (.a (.int .i64 10)))),none⟩,⟨some 10,.bin .add (.k (.u (.a (.int .i64 48)))) (.s 9),none⟩,⟨some 11,.cvt .u8 (.s 10),none⟩,⟨some 12,.lit [(.int .u8 0)] 1 [(0,1,(.s 11))],none⟩,⟨some 13,.b2s (.s 12),none⟩,⟨some 14,.mov (.s 3),none⟩,⟨some 15,.bin .add (.s 13) (.s 14),none⟩,⟨some 3,.mov (.s 15),none⟩])
    (.ops [⟨some 16,.mov (.s 0),none⟩,⟨some 17,.bin .quo (.s 16) (.k (.u (.a (.int .i64 10)))),none⟩,⟨some 0,.mov (.s 17),none⟩]))))
def laws_markText : Fn := ⟨[.t 2],
 (.seq (.ops [⟨some 2,.mov (.k (.u (.a (.str [])))),none⟩])
 (.seq (.seq (.ops [⟨some 4,.mov (.s 0),none⟩,⟨some 5,.bin .leq (.s 4) (.k (.u (.a (.int .i64 0)))),none⟩])
 (.cond (.s 5)
  (.seq (.ops [⟨some 2,.mov (.k (.u (.a (.str [109,48])))),none⟩])
  (.ret))
  (.skip)))
 (.seq (.ops [⟨some 3,.mov (.k (.u (.a (.str [])))),none⟩])
 (.seq (.block 0
  (.loop laws_markText_L0))
 (.seq (.ops [⟨some 18,.mov (.s 3),none⟩,⟨some 19,.bin .add (.k (.u (.a (.str [109])))) (.s 18),none⟩,⟨some 2,.mov (.s 19),none⟩])
 (.ret))))))⟩

def spec_stGood_L0 : IC :=
 (.seq (.seq (.ops [⟨some 8,.mov (.s 3),none⟩,⟨some 9,.mov (.s 0),none⟩,⟨some 10,.lens (.s 9),none⟩,⟨some 11,.bin .lss (.s 8) (.s 10),none⟩])
   (.cond (.s 11)
    (.skip)
    (.exit 0)))
   (.seq (.block 1
    (.seq (.ops [⟨some 14,.mov (.s 0),none⟩,⟨some 15,.mov (.s 3),none⟩,⟨some 16,.ixs (.s 14) (.s 15),none⟩,⟨some 17,.bin .neq (.s 16) (.k (.u (.a (.int .u8 46)))),none⟩,⟨some 18,.mov (.s 17),none⟩,⟨some 19,.mov (.s 0),some (18,true)⟩,⟨some 20,.mov (.s 3),some (18,true)⟩,⟨some 21,.ixs (.s 19) (.s 20),some (18,true)⟩,⟨some 22,.bin .lss (.s 21) (.k (.u (.a (.int .u8 97)))),some (18,true)⟩,⟨some 23,.mov (.s 22),some (18,true)⟩,⟨some 24,.mov (.s 0),some (23,false)⟩,⟨some 25,.mov (.s 3),some (23,false)⟩,⟨some 26,.ixs (.s 24) (.s 25),some (23,false)⟩,⟨some 27,.bin .gtr (.s 26) (.k (.u (.a (.int .u8 101)))),some (23,false)⟩,⟨some 28,.pick (.s 23) (.k (.u (.a (.bool true)))) (.s 27),some (18,true)⟩,⟨some 29,.pick (.s 18) (.s 28) (.k (.u (.a (.bool false)))),none⟩])
    (.cond (.s 29)
     (.seq (.ops [⟨some 2,.mov (.k (.u (.a (.bool false)))),none⟩])
     (.ret))
     (.skip))))
   (.ops [⟨some 12,.mov (.s 3),none⟩,⟨some 13,.bin .add (.s 12) (.k (.u (.a (.int .i64 1)))),none⟩,⟨some 3,.mov (.s 13),none⟩])))
def spec_stGood : Fn := ⟨[.t 2],
 (.seq (.ops [⟨some 2,.mov (.k (.u (.a (.bool false)))),none⟩])
 (.seq (.seq (.ops [⟨some 4,.mov (.s 0),none⟩,⟨some 5,.lens (.s 4),none⟩,⟨some 6,.call 598 [(.s 5),(.k (.u (.a (.int .i64 1)))),(.k (.u (.a (.int .i64 20))))],none⟩,⟨some 7,.not (.s 6),none⟩])
 (.cond (.s 7)
  (.seq (.ops [⟨some 2,.mov (.k (.u (.a (.bool false)))),none⟩])
  (.ret))
  (.skip)))
 (.seq (.seq (.ops [⟨some 3,.mov (.k (.u (.a (.int .i64 0)))),none⟩])
 (.block 0
  (.loop spec_stGood_L0)))
 (.seq (.ops [⟨some 2,.mov (.k (.u (.a (.bool true)))),none⟩])
 (.ret)))))⟩

def slices_ContainsFunc_byte_byte : Fn := ⟨[.t 4],
 (.seq (.ops [⟨some 4,.mov (.k (.u (.a (.bool false)))),none⟩])
 (.seq (.ops [⟨some 5,.mov (.s 0),none⟩,⟨some 6,.mov (.s 1),none⟩,⟨some 7,.call 929 [(.s 5),(.s 6)],none⟩,⟨some 8,.bin .geq (.s 7) (.k (.u (.a (.int .i64 0)))),none⟩,⟨some 4,.mov (.s 8),none⟩])
 (.ret)))⟩

def impl_IsFence_1 : Fn := ⟨[.t 2],
 (.seq (.ops [⟨some 2,.mov (.k (.u (.a (.bool false)))),none⟩])
 (.seq (.ops [⟨some 3,.mov (.s 0),none⟩,⟨some 4,.call 723 [(.s 3)],none⟩,⟨some 5,.not (.s 4),none⟩,⟨some 2,.mov (.s 5),none⟩])
 (.ret)))⟩

def impl_isBoard : Fn := ⟨[.t 2],
 (.seq (.ops [⟨some 2,.mov (.k (.u (.a (.bool false)))),none⟩])
 (.seq (.ops [⟨some 3,.mov (.s 0),none⟩,⟨some 4,.bin .eql (.s 3) (.k (.u (.a (.int .u8 46)))),none⟩,⟨some 5,.mov (.s 4),none⟩,⟨some 6,.mov (.s 0),some (5,false)⟩,⟨some 7,.call 930 [(.k (.u (.a (.str [97,98,99,100,101])))),(.s 6)],some (5,false)⟩,⟨some 8,.bin .geq (.s 7) (.k (.u (.a (.int .i64 0)))),some (5,false)⟩,⟨some 9,.pick (.s 5) (.k (.u (.a (.bool true)))) (.s 8),none⟩,⟨some 2,.mov (.s 9),none⟩])
 (.ret)))⟩

def spec_fiGood_L1 : IC :=
 (.seq (.seq (.ops [⟨some 31,.mov (.s 5),none⟩,⟨some 32,.mov (.s 4),none⟩,⟨some 33,.lens (.s 32),none⟩,⟨some 34,.bin .lss (.s 31) (.s 33),none⟩])
      (.cond (.s 34)
       (.skip)
       (.exit 2)))
      (.seq (.block 3
       (.seq (.ops [⟨some 37,.mov (.s 4),none⟩,⟨some 38,.mov (.s 5),none⟩,⟨some 39,.ixs (.s 37) (.s 38),none⟩,⟨some 40,.bin .neq (.s 39) (.k (.u (.a (.int .u8 46)))),none⟩,⟨some 41,.mov (.s 40),none⟩,⟨some 42,.mov (.s 4),some (41,true)⟩,⟨some 43,.mov (.s 5),some (41,true)⟩,⟨some 44,.ixs (.s 42) (.s 43),some (41,true)⟩,⟨some 45,.call 957 [(.s 44)],some (41,true)⟩,⟨some 46,.not (.s 45),some (41,true)⟩,⟨some 47,.pick (.s 41) (.s 46) (.k (.u (.a (.bool false)))),none⟩])
       (.cond (.s 47)
        (.seq (.ops [⟨some 2,.mov (.k (.u (.a (.bool false)))),none⟩])
        (.ret))
        (.skip))))
      (.ops [⟨some 35,.mov (.s 5),none⟩,⟨some 36,.bin .add (.s 35) (.k (.u (.a (.int .i64 1)))),none⟩,⟨some 5,.mov (.s 36),none⟩])))
def spec_fiGood_L0 : IC :=
 (.seq (.ops [⟨some 21,.bin .lss (.s 20) (.s 19),none⟩])
   (.seq (.cond (.s 21)
    (.skip)
    (.exit 0))
   (.seq (.block 1
    (.seq (.ops [⟨some 22,.ia 1 (.s 18) (.s 20),none⟩,⟨some 23,.load false 1 (.s 22),none⟩,⟨some 4,.mov (.s 23),none⟩])
    (.seq (.seq (.ops [⟨some 24,.mov (.s 4),none⟩,⟨some 25,.lens (.s 24),none⟩,⟨some 26,.mov (.s 0),none⟩,⟨some 27,.ia 1 (.s 26) (.k (.u (.a (.int .i64 0)))),none⟩,⟨some 28,.load false 1 (.s 27),none⟩,⟨some 29,.lens (.s 28),none⟩,⟨some 30,.bin .neq (.s 25) (.s 29),none⟩])
    (.cond (.s 30)
     (.seq (.ops [⟨some 2,.mov (.k (.u (.a (.bool false)))),none⟩])
     (.ret))
     (.skip)))
    (.seq (.ops [⟨some 5,.mov (.k (.u (.a (.int .i64 0)))),none⟩])
    (.block 2
     (.loop spec_fiGood_L1))))))
   (.ops [⟨some 48,.bin .add (.s 20) (.k (.u (.a (.int .i64 1)))),none⟩,⟨some 20,.mov (.s 48),none⟩]))))
def spec_fiGood : Fn := ⟨[.t 2],
 (.seq (.ops [⟨some 2,.mov (.k (.u (.a (.bool false)))),none⟩])
 (.seq (.seq (.ops [⟨some 6,.mov (.s 0),none⟩,⟨some 7,.len (.s 6),none⟩,⟨some 8,.call 598 [(.s 7),(.k (.u (.a (.int .i64 1)))),(.k (.u (.a (.int .i64 12))))],none⟩,⟨some 9,.not (.s 8),none⟩,⟨some 10,.mov (.s 9),none⟩,⟨some 11,.mov (.s 0),some (10,false)⟩,⟨some 12,.ia 1 (.s 11) (.k (.u (.a (.int .i64 0)))),some (10,false)⟩,⟨some 13,.load false 1 (.s 12),some (10,false)⟩,⟨some 14,.lens (.s 13),some (10,false)⟩,⟨some 15,.call 598 [(.s 14),(.k (.u (.a (.int .i64 1)))),(.k (.u (.a (.int .i64 12))))],some (10,false)⟩,⟨some 16,.not (.s 15),some (10,false)⟩,⟨some 17,.pick (.s 10) (.k (.u (.a (.bool true)))) (.s 16),none⟩])
 (.cond (.s 17)
  (.seq (.ops [⟨some 2,.mov (.k (.u (.a (.bool false)))),none⟩])
  (.ret))
  (.skip)))
 (.seq (.seq (.ops [⟨some 18,.mov (.s 0),none⟩,⟨some 19,.len (.s 18),none⟩,⟨some 20,.mov (.k (.u (.a (.int .i64 0)))),none⟩])
 (.block 0
  (.loop spec_fiGood_L0)))
 (.seq (.ops [⟨some 2,.mov (.k (.u (.a (.bool true)))),none⟩])
 (.ret)))))⟩

def slices_IndexFunc_int_int_L0 : IC :=
 (.seq (.ops [⟨some 9,.bin .lss (.s 8) (.s 7),none⟩])
   (.seq (.cond (.s 9)
    (.skip)
    (.exit 0))
   (.seq (.block 1
    (.seq (.ops [⟨some 10,.mov (.s 8),none⟩,⟨some 5,.mov (.s 10),none⟩])
    (.seq (.ops [⟨some 11,.mov (.s 1),none⟩,⟨some 12,.mov (.s 0),none⟩,⟨some 13,.mov (.s 5),none⟩,⟨some 14,.ia 1 (.s 12) (.s 13),none⟩,⟨some 15,.load false 1 (.s 14),none⟩,⟨some 16,.callv (.s 11) [(.s 15)],none⟩])
    (.cond (.s 16)
     (.seq (.ops [⟨some 17,.mov (.s 5),none⟩,⟨some 4,.mov (.s 17),none⟩])
     (.ret))
     (.skip)))))
   (.ops [⟨some 18,.bin .add (.s 8) (.k (.u (.a (.int .i64 1)))),none⟩,⟨some 8,.mov (.s 18),none⟩]))))
def slices_IndexFunc_int_int : Fn := ⟨[.t 4],
 (.seq (.ops [⟨some 4,.mov (.k (.u (.a (.int .i64 0)))),none⟩])
 (.seq (.seq (.ops [⟨some 6,.mov (.s 0),none⟩,⟨some 7,.len (.s 6),none⟩,⟨some 8,.mov (.k (.u (.a (.int .i64 0)))),none⟩])
 (.block 0
  (.loop slices_IndexFunc_int_int_L0)))
 (.seq (.ops [⟨some 4,.mov (.k (.u (.a (.int .i64 (-1))))),none⟩])
 (.ret))))⟩

def spec_poGood : Fn := ⟨[.t 2],
 (.seq (.ops [⟨some 2,.mov (.k (.u (.a (.bool false)))),none⟩])
 (.seq (.ops [⟨some 3,.mov (.s 0),none⟩,⟨some 4,.len (.s 3),none⟩,⟨some 5,.call 598 [(.s 4),(.k (.u (.a (.int .i64 1)))),(.k (.u (.a (.int .i64 8))))],none⟩,⟨some 6,.mov (.s 5),none⟩,⟨some 7,.mov (.s 0),some (6,true)⟩,⟨some 8,.call 628 [(.s 7),(.k (.u (.a (.int .i64 1)))),(.k (.u (.a (.int .i64 500))))],some (6,true)⟩,⟨some 9,.pick (.s 6) (.s 8) (.k (.u (.a (.bool false)))),none⟩,⟨some 2,.mov (.s 9),none⟩])
 (.ret)))⟩

def spec_coSize : Fn := ⟨[.t 4],
 (.seq (.ops [⟨some 4,.mov (.k (.u (.a (.bool false)))),none⟩])
 (.seq (.ops [⟨some 5,.mov (.s 0),none⟩,⟨some 6,.call 598 [(.s 5),(.k (.u (.a (.int .i64 1)))),(.k (.u (.a (.int .i64 20))))],none⟩,⟨some 7,.mov (.s 6),none⟩,⟨some 8,.mov (.s 0),some (7,true)⟩,⟨some 9,.bin .geq (.s 8) (.k (.u (.a (.int .i64 3)))),some (7,true)⟩,⟨some 10,.mov (.s 9),some (7,true)⟩,⟨some 11,.mov (.s 1),some (10,false)⟩,⟨some 12,.not (.s 11),some (10,false)⟩,⟨some 13,.pick (.s 10) (.k (.u (.a (.bool true)))) (.s 12),some (7,true)⟩,⟨some 14,.pick (.s 7) (.s 13) (.k (.u (.a (.bool false)))),none⟩,⟨some 4,.mov (.s 14),none⟩])
 (.ret)))⟩

def spec_coEnds_L0 : IC :=
 (.seq (.ops [⟨some 26,.bin .lss (.s 25) (.s 24),none⟩])
   (.seq (.cond (.s 26)
    (.skip)
    (.exit 0))
   (.seq (.block 1
    (.seq (.ops [⟨some 27,.mov (.s 25),none⟩,⟨some 12,.mov (.s 27),none⟩])
    (.seq (.ops [⟨some 28,.mov (.s 11),none⟩,⟨some 29,.mov (.s 12),none⟩,⟨some 30,.ia 1 (.s 28) (.s 29),none⟩,⟨none,.store 1 (.s 30) (.k (.u (.a (.int .i64 1)))),none⟩])
    (.seq (.ops [⟨some 31,.mov (.s 12),none⟩,⟨some 32,.mov (.s 4),none⟩,⟨some 33,.bin .eql (.s 31) (.s 32),none⟩])
    (.cond (.s 33)
     (.ops [⟨some 34,.mov (.s 11),none⟩,⟨some 35,.mov (.s 12),none⟩,⟨some 36,.ia 1 (.s 34) (.s 35),none⟩,⟨none,.store 1 (.s 36) (.k (.u (.a (.int .i64 0)))),none⟩])
     (.skip))))))
   (.ops [⟨some 37,.bin .add (.s 25) (.k (.u (.a (.int .i64 1)))),none⟩,⟨some 25,.mov (.s 37),none⟩]))))
def spec_coEnds_L3 : IC :=
 (.seq (.ops [⟨some 66,.bin .lss (.s 65) (.s 64),none⟩])
         (.seq (.cond (.s 66)
          (.skip)
          (.exit 6))
         (.seq (.block 7
          (.seq (.ops [⟨some 67,.mov (.s 65),none⟩,⟨some 68,.ia 1 (.s 63) (.s 65),none⟩,⟨some 69,.load false 1 (.s 68),none⟩,⟨some 16,.mov (.s 67),none⟩,⟨some 17,.mov (.s 69),none⟩])
          (.seq (.ops [⟨some 70,.mov (.s 15),none⟩,⟨some 71,.mov (.s 16),none⟩,⟨some 72,.bin .neq (.s 70) (.s 71),none⟩,⟨some 73,.mov (.s 72),none⟩,⟨some 74,.mov (.s 0),some (73,true)⟩,⟨some 75,.mov (.s 13),some (73,true)⟩,⟨some 76,.mov (.s 16),some (73,true)⟩,⟨some 77,.call 876 [(.s 74),(.s 75),(.s 76)],some (73,true)⟩,⟨some 78,.pick (.s 73) (.s 77) (.k (.u (.a (.bool false)))),none⟩])
          (.cond (.s 78)
           (.ops [⟨some 79,.mov (.s 14),none⟩,⟨some 80,.mov (.s 15),none⟩,⟨some 81,.ia 1 (.s 79) (.s 80),none⟩,⟨some 82,.load false 1 (.s 81),none⟩,⟨some 83,.mov (.s 17),none⟩,⟨some 84,.bin .add (.s 82) (.s 83),none⟩,⟨some 85,.ia 1 (.s 79) (.s 80),none⟩,⟨none,.store 1 (.s 85) (.s 84),none⟩])
           (.skip)))))
         (.ops [⟨some 86,.bin .add (.s 65) (.k (.u (.a (.int .i64 1)))),none⟩,⟨some 65,.mov (.s 86),none⟩]))))
def spec_coEnds_L2 : IC :=
 (.seq (.ops [⟨some 61,.bin .lss (.s 60) (.s 59),none⟩])
      (.seq (.cond (.s 61)
       (.skip)
       (.exit 4))
      (.seq (.block 5
       (.seq (.ops [⟨some 62,.mov (.s 60),none⟩,⟨some 15,.mov (.s 62),none⟩])
       (.seq (.ops [⟨some 63,.mov (.s 11),none⟩,⟨some 64,.len (.s 63),none⟩,⟨some 65,.mov (.k (.u (.a (.int .i64 0)))),none⟩])
       (.block 6
        (.loop spec_coEnds_L3)))))
      (.ops [⟨some 87,.bin .add (.s 60) (.k (.u (.a (.int .i64 1)))),none⟩,⟨some 60,.mov (.s 87),none⟩]))))
def spec_coEnds_L1 : IC :=
 (.seq (.seq (.ops [⟨some 51,.mov (.s 13),none⟩,⟨some 52,.mov (.s 2),none⟩,⟨some 53,.bin .gtr (.s 51) (.s 52),none⟩])
   (.cond (.s 53)
    (.skip)
    (.exit 2)))
   (.seq (.block 3
    (.seq (.ops [⟨some 56,.mov (.s 1),none⟩,⟨some 57,.mk [(.int .i64 0)] 8 (.s 56) (.s 56),none⟩,⟨some 14,.mov (.s 57),none⟩])
    (.seq (.seq (.ops [⟨some 58,.mov (.s 14),none⟩,⟨some 59,.len (.s 58),none⟩,⟨some 60,.mov (.k (.u (.a (.int .i64 0)))),none⟩])
    (.block 4
     (.loop spec_coEnds_L2)))
    (.ops [⟨some 88,.mov (.s 14),none⟩,⟨some 11,.mov (.s 88),none⟩]))))
   (.ops [⟨some 54,.mov (.s 13),none⟩,⟨some 55,.bin .sub (.s 54) (.k (.u (.a (.int .i64 1)))),none⟩,⟨some 13,.mov (.s 55),none⟩])))
def spec_coEnds_L4 : IC :=
 (.seq (.ops [⟨some 92,.bin .lss (.s 91) (.s 90),none⟩])
   (.seq (.cond (.s 92)
    (.skip)
    (.exit 8))
   (.seq (.block 9
    (.seq (.ops [⟨some 93,.mov (.s 91),none⟩,⟨some 94,.ia 1 (.s 89) (.s 91),none⟩,⟨some 95,.load false 1 (.s 94),none⟩,⟨some 19,.mov (.s 93),none⟩,⟨some 20,.mov (.s 95),none⟩])
    (.seq (.ops [⟨some 96,.mov (.s 19),none⟩,⟨some 97,.mov (.s 3),none⟩,⟨some 98,.bin .neq (.s 96) (.s 97),none⟩,⟨some 99,.mov (.s 98),none⟩,⟨some 100,.mov (.s 0),some (99,true)⟩,⟨some 101,.mov (.s 2),some (99,true)⟩,⟨some 102,.mov (.s 19),some (99,true)⟩,⟨some 103,.call 876 [(.s 100),(.s 101),(.s 102)],some (99,true)⟩,⟨some 104,.pick (.s 99) (.s 103) (.k (.u (.a (.bool false)))),none⟩])
    (.cond (.s 104)
     (.ops [⟨some 105,.mov (.s 18),none⟩,⟨some 106,.mov (.s 20),none⟩,⟨some 107,.bin .add (.s 105) (.s 106),none⟩,⟨some 18,.mov (.s 107),none⟩])
     (.skip)))))
   (.ops [⟨some 108,.bin .add (.s 91) (.k (.u (.a (.int .i64 1)))),none⟩,⟨some 91,.mov (.s 108),none⟩]))))
def spec_coEnds : Fn := ⟨[.t 10],
 (.seq (.ops [⟨some 10,.mov (.k (.u (.a (.int .i64 0)))),none⟩])
 (.seq (.ops [⟨some 21,.mov (.s 1),none⟩,⟨some 22,.mk [(.int .i64 0)] 8 (.s 21) (.s 21),none⟩,⟨some 11,.mov (.s 22),none⟩])
 (.seq (.seq (.ops [⟨some 23,.mov (.s 11),none⟩,⟨some 24,.len (.s 23),none⟩,⟨some 25,.mov (.k (.u (.a (.int .i64 0)))),none⟩])
 (.block 0
  (.loop spec_coEnds_L0)))
 (.seq (.seq (.ops [⟨some 38,.mov (.s 2),none⟩,⟨some 39,.mov (.s 0),none⟩,⟨some 40,.lens (.s 39),none⟩,⟨some 41,.bin .eql (.s 38) (.s 40),none⟩])
 (.cond (.s 41)
  (.seq (.seq (.ops [⟨some 42,.mov (.s 3),none⟩,⟨some 43,.bin .lss (.s 42) (.k (.u (.a (.int .i64 0)))),none⟩])
  (.cond (.s 43)
   (.seq (.ops [⟨some 10,.mov (.k (.u (.a (.int .i64 1)))),none⟩])
   (.ret))
   (.skip)))
  (.seq (.ops [⟨some 44,.mov (.s 11),none⟩,⟨some 45,.mov (.s 3),none⟩,⟨some 46,.ia 1 (.s 44) (.s 45),none⟩,⟨some 47,.load false 1 (.s 46),none⟩,⟨some 10,.mov (.s 47),none⟩])
  (.ret)))
  (.skip)))
 (.seq (.seq (.ops [⟨some 48,.mov (.s 0),none⟩,⟨some 49,.lens (.s 48),none⟩,⟨some 50,.bin .sub (.s 49) (.k (.u (.a (.int .i64 1)))),none⟩,⟨some 13,.mov (.s 50),none⟩])
 (.block 2
  (.loop spec_coEnds_L1)))
 (.seq (.ops [⟨some 18,.mov (.k (.u (.a (.int .i64 0)))),none⟩])
 (.seq (.seq (.ops [⟨some 89,.mov (.s 11),none⟩,⟨some 90,.len (.s 89),none⟩,⟨some 91,.mov (.k (.u (.a (.int .i64 0)))),none⟩])
 (.block 8
  (.loop spec_coEnds_L4)))
 (.seq (.ops [⟨some 109,.mov (.s 18),none⟩,⟨some 10,.mov (.s 109),none⟩])
 (.ret)))))))))⟩

def spec_coAllows : Fn := ⟨[.t 6],
 (.seq (.ops [⟨some 6,.mov (.k (.u (.a (.bool false)))),none⟩])
 (.seq (.ops [⟨some 7,.mov (.s 0),none⟩,⟨some 8,.mov (.s 1),none⟩,⟨some 9,.ixs (.s 7) (.s 8),none⟩,⟨some 10,.bin .eql (.s 9) (.k (.u (.a (.int .u8 46)))),none⟩,⟨some 11,.mov (.s 10),none⟩,⟨some 12,.mov (.s 0),some (11,false)⟩,⟨some 13,.mov (.s 1),some (11,false)⟩,⟨some 14,.ixs (.s 12) (.s 13),some (11,false)⟩,⟨some 15,.bin .sub (.s 14) (.k (.u (.a (.int .u8 97)))),some (11,false)⟩,⟨some 16,.cvt .i64 (.s 15),some (11,false)⟩,⟨some 17,.mov (.s 2),some (11,false)⟩,⟨some 18,.bin .eql (.s 16) (.s 17),some (11,false)⟩,⟨some 19,.pick (.s 11) (.k (.u (.a (.bool true)))) (.s 18),none⟩,⟨some 6,.mov (.s 19),none⟩])
 (.ret)))⟩

def impl_isRing : Fn := ⟨[.t 4],
 (.seq (.ops [⟨some 4,.mov (.k (.u (.a (.bool false)))),none⟩])
 (.seq (.ops [⟨some 5,.mov (.s 0),none⟩,⟨some 6,.call 597 [(.s 5),(.k (.u (.a (.int .i64 1)))),(.k (.u (.a (.int .i64 20))))],none⟩,⟨some 7,.mov (.s 6),none⟩,⟨some 8,.mov (.s 1),some (7,true)⟩,⟨some 9,.not (.s 8),some (7,true)⟩,⟨some 10,.mov (.s 9),some (7,true)⟩,⟨some 11,.mov (.s 0),some (10,false)⟩,⟨some 12,.bin .geq (.s 11) (.k (.u (.a (.int .i64 3)))),some (10,false)⟩,⟨some 13,.pick (.s 10) (.k (.u (.a (.bool true)))) (.s 12),some (7,true)⟩,⟨some 14,.pick (.s 7) (.s 13) (.k (.u (.a (.bool false)))),none⟩,⟨some 4,.mov (.s 14),none⟩])
 (.ret)))⟩

def impl_table_fixed_L0 : IC :=
 (.seq (.ops [⟨some 12,.bin .lss (.s 11) (.k (.u (.a (.int .i64 5)))),none⟩])
   (.seq (.cond (.s 12)
    (.skip)
    (.exit 0))
   (.seq (.block 1
    (.seq (.ops [⟨some 13,.mov (.s 11),none⟩,⟨some 8,.mov (.s 13),none⟩])
    (.seq (.ops [⟨some 14,.mov (.s 8),none⟩,⟨some 15,.mov (.s 2),none⟩,⟨some 16,.bin .neq (.s 14) (.s 15),none⟩])
    (.cond (.s 16)
     (.ops [⟨some 17,.mov (.s 7),none⟩,⟨some 18,.mov (.s 1),none⟩,⟨some 19,.mov (.s 8),none⟩,⟨some 20,.ia 5 (.s 17) (.s 18),none⟩,⟨some 21,.iap 5 1 (.s 20) (.s 19),none⟩,⟨none,.store 1 (.s 21) (.k (.u (.a (.int .i64 1099511627776)))),none⟩])
     (.skip)))))
   (.ops [⟨some 22,.bin .add (.s 11) (.k (.u (.a (.int .i64 1)))),none⟩,⟨some 11,.mov (.s 22),none⟩]))))
def impl_table_fixed : Fn := ⟨[.t 6],
 (.seq (.ops [⟨some 6,.mov (.k (.u (.a .nils))),none⟩])
 (.seq (.ops [⟨some 9,.mov (.s 0),none⟩,⟨some 10,.call 966 [(.s 9)],none⟩,⟨some 7,.mov (.s 10),none⟩])
 (.seq (.seq (.ops [⟨some 11,.mov (.k (.u (.a (.int .i64 0)))),none⟩])
 (.block 0
  (.loop impl_table_fixed_L0)))
 (.seq (.ops [⟨some 23,.mov (.s 7),none⟩,⟨some 6,.mov (.s 23),none⟩])
 (.ret)))))⟩

def strings_Index : Fn := ⟨[.t 4],
 (.seq (.ops [⟨some 4,.mov (.k (.u (.a (.int .i64 0)))),none⟩])
 (.seq (.ops [⟨some 5,.mov (.s 0),none⟩,⟨some 6,.mov (.s 1),none⟩,⟨some 7,.call 974 [(.s 5),(.s 6)],none⟩,⟨some 4,.mov (.s 7),none⟩])
 (.ret)))⟩

def spec_coWith : Fn := ⟨[.t 6],
 (.seq (.ops [⟨some 6,.mov (.k (.u (.a (.str [])))),none⟩])
 (.seq (.dops [⟨⟨some 7,.mov (.s 0),none⟩,[]⟩,⟨⟨some 8,.mov (.s 1),none⟩,[]⟩,⟨⟨some 9,.sstr (.s 7) none (some (.s 8)),none⟩,[]⟩,⟨⟨some 10,.mov (.s 2),none⟩,[]⟩,⟨⟨some 11,.mov (.s 2),none⟩,[]⟩,⟨⟨some 12,.bin .add (.s 11) (.k (.u (.a (.int .i64 1)))),none⟩,[]⟩,⟨⟨some 13,.sstr (.k (.u (.a (.str [97,98,99,100,101])))) (some (.s 10)) (some (.s 12)),none⟩,[]⟩,⟨⟨some 14,.bin .add (.s 9) (.s 13),none⟩,[]⟩,⟨⟨some 15,.mov (.s 0),none⟩,[]⟩,⟨⟨some 16,.mov (.s 1),none⟩,[]⟩,⟨⟨some 17,.bin .add (.s 16) (.k (.u (.a (.int .i64 1)))),none⟩,[]⟩,⟨⟨some 18,.sstr (.s 15) (some (.s 17)) none,none⟩,[]⟩,⟨⟨some 19,.bin .add (.s 14) (.s 18),none⟩,[]⟩,⟨⟨some 6,.mov (.s 19),none⟩,[]⟩])
 (.ret)))⟩

def spec_coRepaint_L0 : IC :=
 (.seq (.ops [⟨some 23,.bin .lss (.s 22) (.s 21),none⟩])
   (.seq (.cond (.s 23)
    (.skip)
    (.exit 0))
   (.seq (.block 1
    (.seq (.ops [⟨some 24,.mov (.s 22),none⟩,⟨some 12,.mov (.s 24),none⟩])
    (.seq (.ops [⟨some 25,.mov (.s 12),none⟩,⟨some 26,.mov (.s 4),none⟩,⟨some 27,.bin .eql (.s 25) (.s 26),none⟩])
    (.cond (.s 27)
     (.ops [⟨some 28,.mov (.s 11),none⟩,⟨some 29,.mov (.s 12),none⟩,⟨some 30,.ia 1 (.s 28) (.s 29),none⟩,⟨none,.store 1 (.s 30) (.k (.u (.a (.int .i64 (-1))))),none⟩])
     (.skip)))))
   (.ops [⟨some 31,.bin .add (.s 22) (.k (.u (.a (.int .i64 1)))),none⟩,⟨some 22,.mov (.s 31),none⟩]))))
def spec_coRepaint_L3 : IC :=
 (.seq (.ops [⟨some 54,.bin .lss (.s 53) (.s 52),none⟩])
         (.seq (.cond (.s 54)
          (.skip)
          (.exit 6))
         (.seq (.block 7
          (.seq (.ops [⟨some 55,.mov (.s 53),none⟩,⟨some 56,.ia 1 (.s 51) (.s 53),none⟩,⟨some 57,.load false 1 (.s 56),none⟩,⟨some 16,.mov (.s 55),none⟩,⟨some 17,.mov (.s 57),none⟩])
          (.seq (.seq (.ops [⟨some 58,.mov (.s 17),none⟩,⟨some 59,.bin .lss (.s 58) (.k (.u (.a (.int .i64 0)))),none⟩,⟨some 60,.mov (.s 59),none⟩,⟨some 61,.mov (.s 15),some (60,false)⟩,⟨some 62,.mov (.s 16),some (60,false)⟩,⟨some 63,.bin .eql (.s 61) (.s 62),some (60,false)⟩,⟨some 64,.pick (.s 60) (.k (.u (.a (.bool true)))) (.s 63),none⟩])
          (.cond (.s 64)
           (.exit 7)
           (.skip)))
          (.seq (.seq (.ops [⟨some 65,.mov (.s 0),none⟩,⟨some 66,.mov (.s 13),none⟩,⟨some 67,.ixs (.s 65) (.s 66),none⟩,⟨some 68,.cvt .i64 (.s 67),none⟩,⟨some 69,.mov (.s 16),none⟩,⟨some 70,.bin .add (.k (.u (.a (.int .i64 97)))) (.s 69),none⟩,⟨some 71,.bin .neq (.s 68) (.s 70),none⟩])
          (.cond (.s 71)
           (.ops [⟨some 72,.mov (.s 17),none⟩,⟨some 73,.bin .add (.s 72) (.k (.u (.a (.int .i64 1)))),none⟩,⟨some 17,.mov (.s 73),none⟩])
           (.skip)))
          (.seq (.ops [⟨some 74,.mov (.s 14),none⟩,⟨some 75,.mov (.s 15),none⟩,⟨some 76,.ia 1 (.s 74) (.s 75),none⟩,⟨some 77,.load false 1 (.s 76),none⟩,⟨some 78,.bin .lss (.s 77) (.k (.u (.a (.int .i64 0)))),none⟩,⟨some 79,.mov (.s 78),none⟩,⟨some 80,.mov (.s 17),some (79,false)⟩,⟨some 81,.mov (.s 14),some (79,false)⟩,⟨some 82,.mov (.s 15),some (79,false)⟩,⟨some 83,.ia 1 (.s 81) (.s 82),some (79,false)⟩,⟨some 84,.load false 1 (.s 83),some (79,false)⟩,⟨some 85,.bin .lss (.s 80) (.s 84),some (79,false)⟩,⟨some 86,.pick (.s 79) (.k (.u (.a (.bool true)))) (.s 85),none⟩])
          (.cond (.s 86)
           (.ops [⟨some 87,.mov (.s 14),none⟩,⟨some 88,.mov (.s 15),none⟩,⟨some 89,.mov (.s 17),none⟩,⟨some 90,.ia 1 (.s 87) (.s 88),none⟩,⟨none,.store 1 (.s 90) (.s 89),none⟩])
           (.skip)))))))
         (.ops [⟨some 91,.bin .add (.s 53) (.k (.u (.a (.int .i64 1)))),none⟩,⟨some 53,.mov (.s 91),none⟩]))))
def spec_coRepaint_L2 : IC :=
 (.seq (.ops [⟨some 46,.bin .lss (.s 45) (.s 44),none⟩])
      (.seq (.cond (.s 46)
       (.skip)
       (.exit 4))
      (.seq (.block 5
       (.seq (.ops [⟨some 47,.mov (.s 45),none⟩,⟨some 15,.mov (.s 47),none⟩])
       (.seq (.ops [⟨some 48,.mov (.s 14),none⟩,⟨some 49,.mov (.s 15),none⟩,⟨some 50,.ia 1 (.s 48) (.s 49),none⟩,⟨none,.store 1 (.s 50) (.k (.u (.a (.int .i64 (-1))))),none⟩])
       (.seq (.ops [⟨some 51,.mov (.s 11),none⟩,⟨some 52,.len (.s 51),none⟩,⟨some 53,.mov (.k (.u (.a (.int .i64 0)))),none⟩])
       (.block 6
        (.loop spec_coRepaint_L3))))))
      (.ops [⟨some 92,.bin .add (.s 45) (.k (.u (.a (.int .i64 1)))),none⟩,⟨some 45,.mov (.s 92),none⟩]))))
def spec_coRepaint_L1 : IC :=
 (.seq (.seq (.ops [⟨some 35,.mov (.s 13),none⟩,⟨some 36,.mov (.s 2),none⟩,⟨some 37,.bin .geq (.s 35) (.s 36),none⟩])
   (.cond (.s 37)
    (.skip)
    (.exit 2)))
   (.seq (.block 3
    (.seq (.ops [⟨some 40,.mov (.s 1),none⟩,⟨some 41,.bin .add (.s 40) (.k (.u (.a (.int .i64 1)))),none⟩,⟨some 42,.mk [(.int .i64 0)] 8 (.s 41) (.s 41),none⟩,⟨some 14,.mov (.s 42),none⟩])
    (.seq (.seq (.ops [⟨some 43,.mov (.s 14),none⟩,⟨some 44,.len (.s 43),none⟩,⟨some 45,.mov (.k (.u (.a (.int .i64 0)))),none⟩])
    (.block 4
     (.loop spec_coRepaint_L2)))
    (.seq (.seq (.ops [⟨some 93,.mov (.s 13),none⟩,⟨some 94,.mov (.s 2),none⟩,⟨some 95,.bin .eql (.s 93) (.s 94),none⟩,⟨some 96,.mov (.s 95),none⟩,⟨some 97,.mov (.s 3),some (96,true)⟩,⟨some 98,.bin .lss (.s 97) (.k (.u (.a (.int .i64 0)))),some (96,true)⟩,⟨some 99,.pick (.s 96) (.s 98) (.k (.u (.a (.bool false)))),none⟩])
    (.cond (.s 99)
     (.seq (.ops [⟨some 100,.mov (.s 14),none⟩,⟨some 101,.mov (.s 1),none⟩,⟨some 102,.ia 1 (.s 100) (.s 101),none⟩,⟨some 103,.load false 1 (.s 102),none⟩,⟨some 10,.mov (.s 103),none⟩])
     (.ret))
     (.skip)))
    (.ops [⟨some 104,.mov (.s 14),none⟩,⟨some 105,.mov (.s 1),none⟩,⟨some 106,.slc 1 (.s 104) none (some (.s 105)) none,none⟩,⟨some 11,.mov (.s 106),none⟩])))))
   (.ops [⟨some 38,.mov (.s 13),none⟩,⟨some 39,.bin .sub (.s 38) (.k (.u (.a (.int .i64 1)))),none⟩,⟨some 13,.mov (.s 39),none⟩])))
def spec_coRepaint : Fn := ⟨[.t 10],
 (.seq (.ops [⟨some 10,.mov (.k (.u (.a (.int .i64 0)))),none⟩])
 (.seq (.ops [⟨some 18,.mov (.s 1),none⟩,⟨some 19,.mk [(.int .i64 0)] 8 (.s 18) (.s 18),none⟩,⟨some 11,.mov (.s 19),none⟩])
 (.seq (.seq (.ops [⟨some 20,.mov (.s 11),none⟩,⟨some 21,.len (.s 20),none⟩,⟨some 22,.mov (.k (.u (.a (.int .i64 0)))),none⟩])
 (.block 0
  (.loop spec_coRepaint_L0)))
 (.seq (.seq (.ops [⟨some 32,.mov (.s 0),none⟩,⟨some 33,.lens (.s 32),none⟩,⟨some 34,.bin .sub (.s 33) (.k (.u (.a (.int .i64 1)))),none⟩,⟨some 13,.mov (.s 34),none⟩])
 (.block 2
  (.loop spec_coRepaint_L1)))
 (.seq (.ops [⟨some 107,.mov (.s 11),none⟩,⟨some 108,.mov (.s 3),none⟩,⟨some 109,.ia 1 (.s 107) (.s 108),none⟩,⟨some 110,.load false 1 (.s 109),none⟩,⟨some 10,.mov (.s 110),none⟩])
 (.ret))))))⟩

def impl_table_line_L2 : IC :=
 (.seq (.ops [⟨some 47,.bin .lss (.s 46) (.k (.u (.a (.int .i64 5)))),none⟩])
         (.seq (.cond (.s 47)
          (.skip)
          (.exit 4))
         (.seq (.block 5
          (.seq (.ops [⟨some 48,.mov (.s 46),none⟩,⟨some 14,.mov (.s 48),none⟩])
          (.seq (.ops [⟨some 49,.mov (.s 14),none⟩,⟨some 50,.mov (.s 12),none⟩,⟨some 51,.bin .neq (.s 49) (.s 50),none⟩,⟨some 52,.mov (.s 51),none⟩,⟨some 53,.mov (.s 14),some (52,true)⟩,⟨some 54,.iap 5 1 (.s 6) (.s 53),some (52,true)⟩,⟨some 55,.load false 1 (.s 54),some (52,true)⟩,⟨some 56,.bin .gtr (.s 55) (.k (.u (.a (.int .i64 0)))),some (52,true)⟩,⟨some 57,.pick (.s 52) (.s 56) (.k (.u (.a (.bool false)))),none⟩])
          (.cond (.s 57)
           (.seq (.dops [⟨⟨some 58,.mov (.s 12),none⟩,[]⟩,⟨⟨some 59,.iap 5 1 (.s 10) (.s 58),none⟩,[]⟩,⟨⟨some 60,.load false 1 (.s 59),none⟩,[]⟩,⟨⟨some 61,.mov (.s 14),none⟩,[]⟩,⟨⟨some 62,.iap 5 1 (.s 6) (.s 61),none⟩,[]⟩,⟨⟨some 63,.load false 1 (.s 62),none⟩,[]⟩,⟨⟨some 64,.bin .add (.s 60) (.s 63),none⟩,[]⟩,⟨⟨some 65,.iap 5 1 (.s 10) (.s 58),none⟩,[]⟩,⟨⟨none,.store 1 (.s 65) (.s 64),none⟩,[]⟩])
           (.dops [⟨⟨some 66,.mov (.s 12),none⟩,[]⟩,⟨⟨some 67,.mov (.s 12),none⟩,[]⟩,⟨⟨some 68,.iap 5 1 (.s 11) (.s 67),none⟩,[]⟩,⟨⟨some 69,.load false 1 (.s 68),none⟩,[]⟩,⟨⟨some 70,.mov (.s 14),none⟩,[]⟩,⟨⟨some 71,.iap 5 1 (.s 7) (.s 70),none⟩,[]⟩,⟨⟨some 72,.load false 1 (.s 71),none⟩,[]⟩,⟨⟨some 73,.mov (.s 13),none⟩,[]⟩,⟨⟨some 74,.bin .add (.s 72) (.s 73),none⟩,[]⟩,⟨⟨some 75,.mn (.s 69) (.s 74),none⟩,[]⟩,⟨⟨some 76,.iap 5 1 (.s 11) (.s 66),none⟩,[]⟩,⟨⟨none,.store 1 (.s 76) (.s 75),none⟩,[]⟩]))
           (.skip)))))
         (.ops [⟨some 77,.bin .add (.s 46) (.k (.u (.a (.int .i64 1)))),none⟩,⟨some 46,.mov (.s 77),none⟩]))))
def impl_table_line_L1 : IC :=
 (.seq (.ops [⟨some 32,.bin .lss (.s 31) (.k (.u (.a (.int .i64 5)))),none⟩])
      (.seq (.cond (.s 32)
       (.skip)
       (.exit 2))
      (.seq (.block 3
       (.seq (.ops [⟨some 33,.mov (.s 31),none⟩,⟨some 34,.ixa 5 1 false (.s 30) (.s 31),none⟩,⟨some 12,.mov (.s 33),none⟩,⟨some 13,.mov (.s 34),none⟩])
       (.seq (.ops [⟨some 35,.mov (.s 12),none⟩,⟨some 36,.iap 5 1 (.s 11) (.s 35),none⟩,⟨none,.store 1 (.s 36) (.k (.u (.a (.int .i64 1099511627776)))),none⟩])
       (.seq (.seq (.ops [⟨some 37,.mov (.s 13),none⟩,⟨some 38,.bin .geq (.s 37) (.k (.u (.a (.int .i64 1099511627776)))),none⟩])
       (.cond (.s 38)
        (.exit 3)
        (.skip)))
       (.seq (.seq (.ops [⟨some 39,.mov (.s 8),none⟩,⟨some 40,.bin .eql (.s 39) (.k (.u (.a (.int .i64 0)))),none⟩])
       (.cond (.s 40)
        (.seq (.ops [⟨some 41,.mov (.s 12),none⟩,⟨some 42,.mov (.s 12),none⟩,⟨some 43,.mov (.s 13),none⟩,⟨some 44,.iap 5 1 (.s 10) (.s 41),none⟩,⟨none,.store 1 (.s 44) (.k (.u (.a (.int .i64 1)))),none⟩,⟨some 45,.iap 5 1 (.s 11) (.s 42),none⟩,⟨none,.store 1 (.s 45) (.s 43),none⟩])
        (.exit 3))
        (.skip)))
       (.seq (.ops [⟨some 46,.mov (.k (.u (.a (.int .i64 0)))),none⟩])
       (.block 4
        (.loop impl_table_line_L2))))))))
      (.ops [⟨some 78,.bin .add (.s 31) (.k (.u (.a (.int .i64 1)))),none⟩,⟨some 31,.mov (.s 78),none⟩]))))
def impl_table_line_L0 : IC :=
 (.seq (.ops [⟨some 24,.bin .lss (.s 23) (.s 22),none⟩])
   (.seq (.cond (.s 24)
    (.skip)
    (.exit 0))
   (.seq (.block 1
    (.seq (.ops [⟨some 25,.mov (.s 23),none⟩,⟨some 26,.ia 5 (.s 21) (.s 23),none⟩,⟨some 27,.load true 5 (.s 26),none⟩,⟨some 9,.alloc [(.int .i64 0),(.int .i64 0),(.int .i64 0),(.int .i64 0),(.int .i64 0)],none⟩,⟨some 8,.mov (.s 25),none⟩,⟨none,.store 5 (.s 9) (.s 27),none⟩])
    (.seq (.ops [⟨some 28,.build [(.int .i64 0),(.int .i64 0),(.int .i64 0),(.int .i64 0),(.int .i64 0)] [],none⟩,⟨some 29,.build [(.int .i64 0),(.int .i64 0),(.int .i64 0),(.int .i64 0),(.int .i64 0)] [],none⟩,⟨some 10,.alloc [(.int .i64 0),(.int .i64 0),(.int .i64 0),(.int .i64 0),(.int .i64 0)],none⟩,⟨some 11,.alloc [(.int .i64 0),(.int .i64 0),(.int .i64 0),(.int .i64 0),(.int .i64 0)],none⟩,⟨none,.store 5 (.s 10) (.s 28),none⟩,⟨none,.store 5 (.s 11) (.s 29),none⟩])
    (.seq (.seq (.ops [⟨some 30,.load true 5 (.s 9),none⟩,⟨some 31,.mov (.k (.u (.a (.int .i64 0)))),none⟩])
    (.block 2
     (.loop impl_table_line_L1)))
    (.dops [⟨⟨some 79,.load true 5 (.s 10),none⟩,[]⟩,⟨⟨some 80,.load true 5 (.s 11),none⟩,[]⟩,⟨⟨none,.store 5 (.s 6) (.s 79),none⟩,[⟨some 80,.load true 5 (.s 11),none⟩]⟩,⟨⟨none,.store 5 (.s 7) (.s 80),none⟩,[]⟩])))))
   (.ops [⟨some 81,.bin .add (.s 23) (.k (.u (.a (.int .i64 1)))),none⟩,⟨some 23,.mov (.s 81),none⟩]))))
def impl_table_line_L3 : IC :=
 (.seq (.ops [⟨some 84,.bin .lss (.s 83) (.k (.u (.a (.int .i64 5)))),none⟩])
   (.seq (.cond (.s 84)
    (.skip)
    (.exit 6))
   (.seq (.block 7
    (.seq (.ops [⟨some 85,.mov (.s 83),none⟩,⟨some 86,.ixa 5 1 false (.s 82) (.s 83),none⟩,⟨some 17,.mov (.s 85),none⟩,⟨some 18,.mov (.s 86),none⟩])
    (.seq (.ops [⟨some 87,.mov (.s 17),none⟩,⟨some 88,.mov (.s 1),none⟩,⟨some 89,.bin .neq (.s 87) (.s 88),none⟩,⟨some 90,.mov (.s 89),none⟩,⟨some 91,.mov (.s 18),some (90,true)⟩,⟨some 92,.bin .gtr (.s 91) (.k (.u (.a (.int .i64 0)))),some (90,true)⟩,⟨some 93,.pick (.s 90) (.s 92) (.k (.u (.a (.bool false)))),none⟩])
    (.cond (.s 93)
     (.dops [⟨⟨some 94,.mov (.s 15),none⟩,[]⟩,⟨⟨some 95,.mov (.s 18),none⟩,[]⟩,⟨⟨some 96,.bin .add (.s 94) (.s 95),none⟩,[]⟩,⟨⟨some 97,.mov (.s 16),none⟩,[]⟩,⟨⟨some 98,.mov (.s 17),none⟩,[]⟩,⟨⟨some 99,.iap 5 1 (.s 7) (.s 98),none⟩,[]⟩,⟨⟨some 100,.load false 1 (.s 99),none⟩,[]⟩,⟨⟨some 101,.mn (.s 97) (.s 100),none⟩,[]⟩,⟨⟨some 15,.mov (.s 96),none⟩,[]⟩,⟨⟨some 16,.mov (.s 101),none⟩,[]⟩])
     (.skip)))))
   (.ops [⟨some 102,.bin .add (.s 83) (.k (.u (.a (.int .i64 1)))),none⟩,⟨some 83,.mov (.s 102),none⟩]))))
def impl_table_line : Fn := ⟨[.t 4,.t 5],
 (.seq (.ops [⟨some 4,.mov (.k (.u (.a (.int .i64 0)))),none⟩,⟨some 5,.mov (.k (.u (.a (.int .i64 0)))),none⟩])
 (.seq (.ops [⟨some 19,.build [(.int .i64 0),(.int .i64 0),(.int .i64 0),(.int .i64 0),(.int .i64 0)] [],none⟩,⟨some 20,.build [(.int .i64 0),(.int .i64 0),(.int .i64 0),(.int .i64 0),(.int .i64 0)] [],none⟩,⟨some 6,.alloc [(.int .i64 0),(.int .i64 0),(.int .i64 0),(.int .i64 0),(.int .i64 0)],none⟩,⟨some 7,.alloc [(.int .i64 0),(.int .i64 0),(.int .i64 0),(.int .i64 0),(.int .i64 0)],none⟩,⟨none,.store 5 (.s 6) (.s 19),none⟩,⟨none,.store 5 (.s 7) (.s 20),none⟩])
 (.seq (.seq (.ops [⟨some 21,.mov (.s 0),none⟩,⟨some 22,.len (.s 21),none⟩,⟨some 23,.mov (.k (.u (.a (.int .i64 0)))),none⟩])
 (.block 0
  (.loop impl_table_line_L0)))
 (.seq (.ops [⟨some 15,.mov (.k (.u (.a (.int .i64 0)))),none⟩,⟨some 16,.mov (.k (.u (.a (.int .i64 1099511627776)))),none⟩])
 (.seq (.seq (.ops [⟨some 82,.load true 5 (.s 6),none⟩,⟨some 83,.mov (.k (.u (.a (.int .i64 0)))),none⟩])
 (.block 6
  (.loop impl_table_line_L3)))
 (.seq (.ops [⟨some 103,.mov (.s 15),none⟩,⟨some 104,.mov (.s 16),none⟩,⟨some 4,.mov (.s 103),none⟩,⟨some 5,.mov (.s 104),none⟩])
 (.ret)))))))⟩

def spec_coInside_L0 : IC :=
 (.seq (.ops [⟨some 8,.nxt (.s 7),none⟩,⟨some 9,.ext (.s 8) 0,none⟩])
   (.seq (.cond (.s 9)
    (.skip)
    (.exit 0))
   (.block 1
    (.seq (.ops [⟨some 10,.ext (.s 8) 1,none⟩,⟨some 5,.mov (.s 10),none⟩])
    (.seq (.ops [⟨some 11,.mov (.s 0),none⟩,⟨some 12,.mov (.s 5),none⟩,⟨some 13,.ixs (.s 11) (.s 12),none⟩,⟨some 14,.bin .neq (.s 13) (.k (.u (.a (.int .u8 46)))),none⟩,⟨some 15,.mov (.s 14),none⟩,⟨some 16,.mov (.s 0),some (15,true)⟩,⟨some 17,.mov (.s 5),some (15,true)⟩,⟨some 18,.ixs (.s 16) (.s 17),some (15,true)⟩,⟨some 19,.bin .sub (.s 18) (.k (.u (.a (.int .u8 97)))),some (15,true)⟩,⟨some 20,.cvt .i64 (.s 19),some (15,true)⟩,⟨some 21,.mov (.s 1),some (15,true)⟩,⟨some 22,.bin .geq (.s 20) (.s 21),some (15,true)⟩,⟨some 23,.pick (.s 15) (.s 22) (.k (.u (.a (.bool false)))),none⟩])
    (.cond (.s 23)
     (.seq (.ops [⟨some 4,.mov (.k (.u (.a (.bool false)))),none⟩])
     (.ret))
     (.skip)))))))
def spec_coInside : Fn := ⟨[.t 4],
 (.seq (.ops [⟨some 4,.mov (.k (.u (.a (.bool false)))),none⟩])
 (.seq (.seq (.ops [⟨some 6,.mov (.s 0),none⟩,⟨some 7,.rng (.s 6),none⟩])
 (.block 0
  (.loop spec_coInside_L0)))
 (.seq (.ops [⟨some 4,.mov (.k (.u (.a (.bool true)))),none⟩])
 (.ret))))⟩

def impl_isList_L0 : IC :=
 (.seq (.ops [⟨some 7,.bin .lss (.s 6) (.s 5),none⟩])
   (.seq (.cond (.s 7)
    (.skip)
    (.exit 0))
   (.seq (.block 1
    (.seq (.ops [⟨some 8,.mov (.s 6),none⟩,⟨some 3,.mov (.s 8),none⟩])
    (.seq (.dops [⟨⟨some 9,.mov (.s 0),none⟩,[]⟩,⟨⟨some 10,.mov (.s 3),none⟩,[]⟩,⟨⟨some 11,.ixs (.s 9) (.s 10),none⟩,[]⟩,⟨⟨some 12,.call 930 [(.k (.u (.a (.str [97,98,99,100,101])))),(.s 11)],none⟩,[]⟩,⟨⟨some 13,.bin .lss (.s 12) (.k (.u (.a (.int .i64 0)))),none⟩,[]⟩,⟨⟨some 14,.mov (.s 13),none⟩,[]⟩,⟨⟨some 15,.mov (.s 3),some (14,false)⟩,[]⟩,⟨⟨some 16,.bin .gtr (.s 15) (.k (.u (.a (.int .i64 0)))),some (14,false)⟩,[]⟩,⟨⟨some 17,.mov (.s 16),some (14,false)⟩,[]⟩,⟨⟨some 18,.mov (.s 0),some (17,true)⟩,[]⟩,⟨⟨some 19,.mov (.s 3),some (17,true)⟩,[]⟩,⟨⟨some 20,.bin .sub (.s 19) (.k (.u (.a (.int .i64 1)))),some (17,true)⟩,[]⟩,⟨⟨some 21,.ixs (.s 18) (.s 20),some (17,true)⟩,[]⟩,⟨⟨some 22,.mov (.s 0),some (17,true)⟩,[]⟩,⟨⟨some 23,.mov (.s 3),some (17,true)⟩,[]⟩,⟨⟨some 24,.ixs (.s 22) (.s 23),some (17,true)⟩,[]⟩,⟨⟨some 25,.bin .geq (.s 21) (.s 24),some (17,true)⟩,[]⟩,⟨⟨some 26,.pick (.s 17) (.s 25) (.k (.u (.a (.bool false)))),some (14,false)⟩,[]⟩,⟨⟨some 27,.pick (.s 14) (.k (.u (.a (.bool true)))) (.s 26),none⟩,[]⟩])
    (.cond (.s 27)
     (.seq (.ops [⟨some 2,.mov (.k (.u (.a (.bool false)))),none⟩])
     (.ret))
     (.skip)))))
   (.ops [⟨some 28,.bin .add (.s 6) (.k (.u (.a (.int .i64 1)))),none⟩,⟨some 6,.mov (.s 28),none⟩]))))
def impl_isList : Fn := ⟨[.t 2],
 (.seq (.ops [⟨some 2,.mov (.k (.u (.a (.bool false)))),none⟩])
 (.seq (.seq (.ops [⟨some 4,.mov (.s 0),none⟩,⟨some 5,.lens (.s 4),none⟩,⟨some 6,.mov (.k (.u (.a (.int .i64 0)))),none⟩])
 (.block 0
  (.loop impl_isList_L0)))
 (.seq (.ops [⟨some 29,.mov (.s 0),none⟩,⟨some 30,.bin .neq (.s 29) (.k (.u (.a (.str [])))),none⟩,⟨some 2,.mov (.s 30),none⟩])
 (.ret))))⟩

def slices_ContainsFunc_int_int : Fn := ⟨[.t 4],
 (.seq (.ops [⟨some 4,.mov (.k (.u (.a (.bool false)))),none⟩])
 (.seq (.ops [⟨some 5,.mov (.s 0),none⟩,⟨some 6,.mov (.s 1),none⟩,⟨some 7,.call 840 [(.s 5),(.s 6)],none⟩,⟨some 8,.bin .geq (.s 7) (.k (.u (.a (.int .i64 0)))),none⟩,⟨some 4,.mov (.s 8),none⟩])
 (.ret)))⟩

def impl_allWithin_1 : Fn := ⟨[.t 4],
 (.seq (.ops [⟨some 4,.mov (.k (.u (.a (.bool false)))),none⟩])
 (.seq (.ops [⟨some 5,.mov (.s 0),none⟩,⟨some 6,.load false 1 (.s 1),none⟩,⟨some 7,.load false 1 (.s 2),none⟩,⟨some 8,.call 597 [(.s 5),(.s 6),(.s 7)],none⟩,⟨some 9,.not (.s 8),none⟩,⟨some 4,.mov (.s 9),none⟩])
 (.ret)))⟩

def slices_IndexFunc_byte_byte_L0 : IC :=
 (.seq (.ops [⟨some 9,.bin .lss (.s 8) (.s 7),none⟩])
   (.seq (.cond (.s 9)
    (.skip)
    (.exit 0))
   (.seq (.block 1
    (.seq (.ops [⟨some 10,.mov (.s 8),none⟩,⟨some 5,.mov (.s 10),none⟩])
    (.seq (.ops [⟨some 11,.mov (.s 1),none⟩,⟨some 12,.mov (.s 0),none⟩,⟨some 13,.mov (.s 5),none⟩,⟨some 14,.ia 1 (.s 12) (.s 13),none⟩,⟨some 15,.load false 1 (.s 14),none⟩,⟨some 16,.callv (.s 11) [(.s 15)],none⟩])
    (.cond (.s 16)
     (.seq (.ops [⟨some 17,.mov (.s 5),none⟩,⟨some 4,.mov (.s 17),none⟩])
     (.ret))
     (.skip)))))
   (.ops [⟨some 18,.bin .add (.s 8) (.k (.u (.a (.int .i64 1)))),none⟩,⟨some 8,.mov (.s 18),none⟩]))))
def slices_IndexFunc_byte_byte : Fn := ⟨[.t 4],
 (.seq (.ops [⟨some 4,.mov (.k (.u (.a (.int .i64 0)))),none⟩])
 (.seq (.seq (.ops [⟨some 6,.mov (.s 0),none⟩,⟨some 7,.len (.s 6),none⟩,⟨some 8,.mov (.k (.u (.a (.int .i64 0)))),none⟩])
 (.block 0
  (.loop slices_IndexFunc_byte_byte_L0)))
 (.seq (.ops [⟨some 4,.mov (.k (.u (.a (.int .i64 (-1))))),none⟩])
 (.ret))))⟩

def strings_IndexByte : Fn := ⟨[.t 4],
 (.seq (.ops [⟨some 4,.mov (.k (.u (.a (.int .i64 0)))),none⟩])
 (.seq (.ops [⟨some 5,.mov (.s 0),none⟩,⟨some 6,.mov (.s 1),none⟩,⟨some 7,.call 992 [(.s 5),(.s 6)],none⟩,⟨some 4,.mov (.s 7),none⟩])
 (.ret)))⟩

def spec_fiLetter : Fn := ⟨[.t 2],
 (.seq (.ops [⟨some 2,.mov (.k (.u (.a (.bool false)))),none⟩])
 (.seq (.ops [⟨some 3,.mov (.s 0),none⟩,⟨some 4,.bin .geq (.s 3) (.k (.u (.a (.int .u8 97)))),none⟩,⟨some 5,.mov (.s 4),none⟩,⟨some 6,.mov (.s 0),some (5,true)⟩,⟨some 7,.bin .leq (.s 6) (.k (.u (.a (.int .u8 101)))),some (5,true)⟩,⟨some 8,.pick (.s 5) (.s 7) (.k (.u (.a (.bool false)))),none⟩,⟨some 2,.mov (.s 8),none⟩])
 (.ret)))⟩

def slices_Clone_impl_table_5_int : Fn := ⟨[.t 2],
 (.seq (.ops [⟨some 2,.mov (.k (.u (.a .nils))),none⟩])
 (.seq (.seq (.ops [⟨some 3,.mov (.s 0),none⟩,⟨some 4,.isn false false (.s 3),none⟩])
 (.cond (.s 4)
  (.seq (.ops [⟨some 2,.mov (.k (.u (.a .nils))),none⟩])
  (.ret))
  (.skip)))
 (.seq (.ops [⟨some 5,.lit [(.int .i64 0),(.int .i64 0),(.int .i64 0),(.int .i64 0),(.int .i64 0)] 0 [],none⟩,⟨some 6,.mov (.s 0),none⟩,⟨some 7,.app 5 40 (.s 5) (.s 6),none⟩,⟨some 2,.mov (.s 7),none⟩])
 (.ret))))⟩

def internal_stringslite_Index_L0 : IC :=
 (.seq (.seq (.ops [⟨some 57,.mov (.s 8),none⟩,⟨some 58,.mov (.s 9),none⟩,⟨some 59,.bin .lss (.s 57) (.s 58),none⟩])
   (.cond (.s 59)
    (.skip)
    (.exit 1)))
   (.block 2
    (.seq (.seq (.ops [⟨some 60,.mov (.s 0),none⟩,⟨some 61,.mov (.s 8),none⟩,⟨some 62,.ixs (.s 60) (.s 61),none⟩,⟨some 63,.mov (.s 6),none⟩,⟨some 64,.bin .neq (.s 62) (.s 63),none⟩])
    (.cond (.s 64)
     (.seq (.ops [⟨some 65,.mov (.s 0),none⟩,⟨some 66,.mov (.s 8),none⟩,⟨some 67,.bin .add (.s 66) (.k (.u (.a (.int .i64 1)))),none⟩,⟨some 68,.mov (.s 9),none⟩,⟨some 69,.sstr (.s 65) (some (.s 67)) (some (.s 68)),none⟩,⟨some 70,.mov (.s 6),none⟩,⟨some 71,.call 992 [(.s 69),(.s 70)],none⟩,⟨some 11,.mov (.s 71),none⟩])
     (.seq (.seq (.ops [⟨some 72,.mov (.s 11),none⟩,⟨some 73,.bin .lss (.s 72) (.k (.u (.a (.int .i64 0)))),none⟩])
     (.cond (.s 73)
      (.seq (.ops [⟨some 4,.mov (.k (.u (.a (.int .i64 (-1))))),none⟩])
      (.ret))
      (.skip)))
     (.ops [⟨some 74,.mov (.s 8),none⟩,⟨some 75,.mov (.s 11),none⟩,⟨some 76,.bin .add (.s 75) (.k (.u (.a (.int .i64 1)))),none⟩,⟨some 77,.bin .add (.s 74) (.s 76),none⟩,⟨some 8,.mov (.s 77),none⟩])))
     (.skip)))
    (.seq (.seq (.ops [⟨some 78,.mov (.s 0),none⟩,⟨some 79,.mov (.s 8),none⟩,⟨some 80,.bin .add (.s 79) (.k (.u (.a (.int .i64 1)))),none⟩,⟨some 81,.ixs (.s 78) (.s 80),none⟩,⟨some 82,.mov (.s 7),none⟩,⟨some 83,.bin .eql (.s 81) (.s 82),none⟩,⟨some 84,.mov (.s 83),none⟩,⟨some 85,.mov (.s 0),some (84,true)⟩,⟨some 86,.mov (.s 8),some (84,true)⟩,⟨some 87,.mov (.s 8),some (84,true)⟩,⟨some 88,.mov (.s 5),some (84,true)⟩,⟨some 89,.bin .add (.s 87) (.s 88),some (84,true)⟩,⟨some 90,.sstr (.s 85) (some (.s 86)) (some (.s 89)),some (84,true)⟩,⟨some 91,.mov (.s 1),some (84,true)⟩,⟨some 92,.bin .eql (.s 90) (.s 91),some (84,true)⟩,⟨some 93,.pick (.s 84) (.s 92) (.k (.u (.a (.bool false)))),none⟩])
    (.cond (.s 93)
     (.seq (.ops [⟨some 94,.mov (.s 8),none⟩,⟨some 4,.mov (.s 94),none⟩])
     (.ret))
     (.skip)))
    (.seq (.ops [⟨some 95,.mov (.s 8),none⟩,⟨some 96,.bin .add (.s 95) (.k (.u (.a (.int .i64 1)))),none⟩,⟨some 8,.mov (.s 96),none⟩])
    (.seq (.ops [⟨some 97,.mov (.s 10),none⟩,⟨some 98,.bin .add (.s 97) (.k (.u (.a (.int .i64 1)))),none⟩,⟨some 10,.mov (.s 98),none⟩])
    (.seq (.ops [⟨some 99,.mov (.s 5),none⟩,⟨some 100,.bad,none⟩,⟨some 101,.bin .leq (.s 99) (.s 100),none⟩,⟨some 102,.mov (.s 101),none⟩,⟨some 103,.mov (.s 10),some (102,true)⟩,⟨some 104,.mov (.s 8),some (102,true)⟩,⟨some 105,.call 1020 [(.s 104)],some (102,true)⟩,⟨some 106,.bin .gtr (.s 103) (.s 105),some (102,true)⟩,⟨some 107,.pick (.s 102) (.s 106) (.k (.u (.a (.bool false)))),none⟩])
    (.cond (.s 107)
     (.seq (.ops [⟨some 108,.mov (.s 0),none⟩,⟨some 109,.mov (.s 8),none⟩,⟨some 110,.sstr (.s 108) (some (.s 109)) none,none⟩,⟨some 111,.mov (.s 1),none⟩,⟨some 112,.call 1019 [(.s 110),(.s 111)],none⟩,⟨some 12,.mov (.s 112),none⟩])
     (.seq (.seq (.ops [⟨some 113,.mov (.s 12),none⟩,⟨some 114,.bin .geq (.s 113) (.k (.u (.a (.int .i64 0)))),none⟩])
     (.cond (.s 114)
      (.seq (.ops [⟨some 115,.mov (.s 12),none⟩,⟨some 116,.mov (.s 8),none⟩,⟨some 117,.bin .add (.s 115) (.s 116),none⟩,⟨some 4,.mov (.s 117),none⟩])
      (.ret))
      (.skip)))
     (.seq (.ops [⟨some 4,.mov (.k (.u (.a (.int .i64 (-1))))),none⟩])
     (.ret))))
     (.seq (.ops [⟨some 118,.mov (.s 5),none⟩,⟨some 119,.bad,none⟩,⟨some 120,.bin .gtr (.s 118) (.s 119),none⟩,⟨some 121,.mov (.s 120),none⟩,⟨some 122,.mov (.s 10),some (121,true)⟩,⟨some 123,.mov (.s 8),some (121,true)⟩,⟨some 124,.bad,some (121,true)⟩,⟨some 125,.bin .add (.k (.u (.a (.int .i64 4)))) (.s 124),some (121,true)⟩,⟨some 126,.bin .geq (.s 122) (.s 125),some (121,true)⟩,⟨some 127,.pick (.s 121) (.s 126) (.k (.u (.a (.bool false)))),none⟩,⟨some 128,.mov (.s 127),none⟩,⟨some 129,.mov (.s 8),some (128,true)⟩,⟨some 130,.mov (.s 9),some (128,true)⟩,⟨some 131,.bin .lss (.s 129) (.s 130),some (128,true)⟩,⟨some 132,.pick (.s 128) (.s 131) (.k (.u (.a (.bool false)))),none⟩])
     (.cond (.s 132)
      (.seq (.ops [⟨some 133,.mov (.s 0),none⟩,⟨some 134,.mov (.s 8),none⟩,⟨some 135,.sstr (.s 133) (some (.s 134)) none,none⟩,⟨some 136,.mov (.s 1),none⟩,⟨some 137,.call 1021 [(.s 135),(.s 136)],none⟩,⟨some 13,.mov (.s 137),none⟩])
      (.seq (.seq (.ops [⟨some 138,.mov (.s 13),none⟩,⟨some 139,.bin .lss (.s 138) (.k (.u (.a (.int .i64 0)))),none⟩])
      (.cond (.s 139)
       (.seq (.ops [⟨some 4,.mov (.k (.u (.a (.int .i64 (-1))))),none⟩])
       (.ret))
       (.skip)))
      (.seq (.ops [⟨some 140,.mov (.s 8),none⟩,⟨some 141,.mov (.s 13),none⟩,⟨some 142,.bin .add (.s 140) (.s 141),none⟩,⟨some 4,.mov (.s 142),none⟩])
      (.ret))))
      (.skip)))))))))))
def internal_stringslite_Index : Fn := ⟨[.t 4],
 (.seq (.ops [⟨some 4,.mov (.k (.u (.a (.int .i64 0)))),none⟩])
 (.seq (.ops [⟨some 14,.mov (.s 1),none⟩,⟨some 15,.lens (.s 14),none⟩,⟨some 5,.mov (.s 15),none⟩])
 (.seq (.block 0
  (.seq (.ops [⟨some 17,.mov (.s 5),none⟩,⟨some 18,.bin .eql (.s 17) (.k (.u (.a (.int .i64 0)))),none⟩,⟨some 19,.mov (.s 18),none⟩,⟨some 20,.mov (.s 1),some (19,false)⟩,⟨some 21,.mov (.s 0),some (19,false)⟩,⟨some 22,.bin .eql (.s 20) (.s 21),some (19,false)⟩,⟨some 23,.pick (.s 19) (.k (.u (.a (.bool true)))) (.s 22),none⟩,⟨some 16,.mov (.s 23),none⟩])
  (.cond (.s 16)
   (.seq (.ops [⟨some 4,.mov (.k (.u (.a (.int .i64 0)))),none⟩])
   (.ret))
   (.seq (.ops [⟨some 25,.mov (.s 5),none⟩,⟨some 26,.bin .eql (.s 25) (.k (.u (.a (.int .i64 1)))),none⟩,⟨some 24,.mov (.s 26),none⟩])
   (.cond (.s 24)
    (.seq (.ops [⟨some 27,.mov (.s 0),none⟩,⟨some 28,.mov (.s 1),none⟩,⟨some 29,.ixs (.s 28) (.k (.u (.a (.int .i64 0)))),none⟩,⟨some 30,.call 992 [(.s 27),(.s 29)],none⟩,⟨some 4,.mov (.s 30),none⟩])
    (.ret))
    (.seq (.ops [⟨some 32,.mov (.s 5),none⟩,⟨some 33,.mov (.s 0),none⟩,⟨some 34,.lens (.s 33),none⟩,⟨some 35,.bin .geq (.s 32) (.s 34),none⟩,⟨some 31,.mov (.s 35),none⟩])
    (.cond (.s 31)
     (.seq (.ops [⟨some 4,.mov (.k (.u (.a (.int .i64 (-1))))),none⟩])
     (.ret))
     (.seq (.ops [⟨some 37,.mov (.s 5),none⟩,⟨some 38,.bad,none⟩,⟨some 39,.bin .leq (.s 37) (.s 38),none⟩,⟨some 40,.mov (.s 39),none⟩,⟨some 41,.mov (.s 0),some (40,true)⟩,⟨some 42,.lens (.s 41),some (40,true)⟩,⟨some 43,.bin .leq (.s 42) (.k (.u (.a (.int .i64 64)))),some (40,true)⟩,⟨some 44,.pick (.s 40) (.s 43) (.k (.u (.a (.bool false)))),none⟩,⟨some 36,.mov (.s 44),none⟩])
     (.cond (.s 36)
      (.seq (.ops [⟨some 45,.mov (.s 0),none⟩,⟨some 46,.mov (.s 1),none⟩,⟨some 47,.call 1019 [(.s 45),(.s 46)],none⟩,⟨some 4,.mov (.s 47),none⟩])
      (.ret))
      (.skip))))))))))
 (.seq (.ops [⟨some 48,.mov (.s 1),none⟩,⟨some 49,.ixs (.s 48) (.k (.u (.a (.int .i64 0)))),none⟩,⟨some 6,.mov (.s 49),none⟩])
 (.seq (.ops [⟨some 50,.mov (.s 1),none⟩,⟨some 51,.ixs (.s 50) (.k (.u (.a (.int .i64 1)))),none⟩,⟨some 7,.mov (.s 51),none⟩])
 (.seq (.ops [⟨some 8,.mov (.k (.u (.a (.int .i64 0)))),none⟩])
 (.seq (.ops [⟨some 52,.mov (.s 0),none⟩,⟨some 53,.lens (.s 52),none⟩,⟨some 54,.mov (.s 5),none⟩,⟨some 55,.bin .sub (.s 53) (.s 54),none⟩,⟨some 56,.bin .add (.s 55) (.k (.u (.a (.int .i64 1)))),none⟩,⟨some 9,.mov (.s 56),none⟩])
 (.seq (.ops [⟨some 10,.mov (.k (.u (.a (.int .i64 0)))),none⟩])
 (.seq (.block 1
  (.loop internal_stringslite_Index_L0))
 (.seq (.ops [⟨some 4,.mov (.k (.u (.a (.int .i64 (-1))))),none⟩])
 (.ret)))))))))))⟩

def internal_stringslite_IndexByte : Fn := ⟨[.t 4],
 (.seq (.ops [⟨some 4,.mov (.k (.u (.a (.int .i64 0)))),none⟩])
 (.seq (.ops [⟨some 5,.mov (.s 0),none⟩,⟨some 6,.mov (.s 1),none⟩,⟨some 7,.call 1025 [(.s 5),(.s 6)],none⟩,⟨some 4,.mov (.s 7),none⟩])
 (.ret)))⟩

def internal_bytealg_Cutover : Fn := ⟨[.t 2],
 (.seq (.ops [⟨some 2,.mov (.k (.u (.a (.int .i64 0)))),none⟩])
 (.seq (.ops [⟨some 3,.mov (.s 0),none⟩,⟨some 4,.bin .add (.s 3) (.k (.u (.a (.int .i64 16)))),none⟩,⟨some 5,.bin .quo (.s 4) (.k (.u (.a (.int .i64 8)))),none⟩,⟨some 2,.mov (.s 5),none⟩])
 (.ret)))⟩

def internal_bytealg_IndexRabinKarp_string_L0 : IC :=
 (.seq (.seq (.ops [⟨some 18,.mov (.s 9),none⟩,⟨some 19,.mov (.s 7),none⟩,⟨some 20,.bin .lss (.s 18) (.s 19),none⟩])
   (.cond (.s 20)
    (.skip)
    (.exit 0)))
   (.seq (.block 1
    (.ops [⟨some 23,.mov (.s 8),none⟩,⟨some 24,.bin .mul (.s 23) (.k (.u (.a (.int .u32 16777619)))),none⟩,⟨some 25,.mov (.s 0),none⟩,⟨some 26,.mov (.s 9),none⟩,⟨some 27,.ixs (.s 25) (.s 26),none⟩,⟨some 28,.cvt .u32 (.s 27),none⟩,⟨some 29,.bin .add (.s 24) (.s 28),none⟩,⟨some 8,.mov (.s 29),none⟩]))
   (.ops [⟨some 21,.mov (.s 9),none⟩,⟨some 22,.bin .add (.s 21) (.k (.u (.a (.int .i64 1)))),none⟩,⟨some 9,.mov (.s 22),none⟩])))
def internal_bytealg_IndexRabinKarp_string_L1 : IC :=
 (.seq (.seq (.ops [⟨some 41,.mov (.s 10),none⟩,⟨some 42,.mov (.s 0),none⟩,⟨some 43,.lens (.s 42),none⟩,⟨some 44,.bin .lss (.s 41) (.s 43),none⟩])
   (.cond (.s 44)
    (.skip)
    (.exit 2)))
   (.block 3
    (.seq (.ops [⟨some 45,.mov (.s 8),none⟩,⟨some 46,.bin .mul (.s 45) (.k (.u (.a (.int .u32 16777619)))),none⟩,⟨some 8,.mov (.s 46),none⟩])
    (.seq (.ops [⟨some 47,.mov (.s 8),none⟩,⟨some 48,.mov (.s 0),none⟩,⟨some 49,.mov (.s 10),none⟩,⟨some 50,.ixs (.s 48) (.s 49),none⟩,⟨some 51,.cvt .u32 (.s 50),none⟩,⟨some 52,.bin .add (.s 47) (.s 51),none⟩,⟨some 8,.mov (.s 52),none⟩])
    (.seq (.ops [⟨some 53,.mov (.s 8),none⟩,⟨some 54,.mov (.s 6),none⟩,⟨some 55,.mov (.s 0),none⟩,⟨some 56,.mov (.s 10),none⟩,⟨some 57,.mov (.s 7),none⟩,⟨some 58,.bin .sub (.s 56) (.s 57),none⟩,⟨some 59,.ixs (.s 55) (.s 58),none⟩,⟨some 60,.cvt .u32 (.s 59),none⟩,⟨some 61,.bin .mul (.s 54) (.s 60),none⟩,⟨some 62,.bin .sub (.s 53) (.s 61),none⟩,⟨some 8,.mov (.s 62),none⟩])
    (.seq (.ops [⟨some 63,.mov (.s 10),none⟩,⟨some 64,.bin .add (.s 63) (.k (.u (.a (.int .i64 1)))),none⟩,⟨some 10,.mov (.s 64),none⟩])
    (.seq (.ops [⟨some 65,.mov (.s 8),none⟩,⟨some 66,.mov (.s 5),none⟩,⟨some 67,.bin .eql (.s 65) (.s 66),none⟩,⟨some 68,.mov (.s 67),none⟩,⟨some 69,.mov (.s 0),some (68,true)⟩,⟨some 70,.mov (.s 10),some (68,true)⟩,⟨some 71,.mov (.s 7),some (68,true)⟩,⟨some 72,.bin .sub (.s 70) (.s 71),some (68,true)⟩,⟨some 73,.mov (.s 10),some (68,true)⟩,⟨some 74,.sstr (.s 69) (some (.s 72)) (some (.s 73)),some (68,true)⟩,⟨some 75,.mov (.s 1),some (68,true)⟩,⟨some 76,.bin .eql (.s 74) (.s 75),some (68,true)⟩,⟨some 77,.pick (.s 68) (.s 76) (.k (.u (.a (.bool false)))),none⟩])
    (.cond (.s 77)
     (.seq (.ops [⟨some 78,.mov (.s 10),none⟩,⟨some 79,.mov (.s 7),none⟩,⟨some 80,.bin .sub (.s 78) (.s 79),none⟩,⟨some 4,.mov (.s 80),none⟩])
     (.ret))
     (.skip)))))))))
def internal_bytealg_IndexRabinKarp_string : Fn := ⟨[.t 4],
 (.seq (.ops [⟨some 4,.mov (.k (.u (.a (.int .i64 0)))),none⟩])
 (.seq (.ops [⟨some 12,.mov (.s 1),none⟩,⟨some 13,.call 1040 [(.s 12)],none⟩,⟨some 11,.mov (.s 13),none⟩,⟨some 14,.ext (.s 11) 0,none⟩,⟨some 15,.ext (.s 11) 1,none⟩,⟨some 5,.mov (.s 14),none⟩,⟨some 6,.mov (.s 15),none⟩])
 (.seq (.ops [⟨some 16,.mov (.s 1),none⟩,⟨some 17,.lens (.s 16),none⟩,⟨some 7,.mov (.s 17),none⟩])
 (.seq (.ops [⟨some 8,.mov (.k (.u (.a (.int .u32 0)))),none⟩])
 (.seq (.seq (.ops [⟨some 9,.mov (.k (.u (.a (.int .i64 0)))),none⟩])
 (.block 0
  (.loop internal_bytealg_IndexRabinKarp_string_L0)))
 (.seq (.seq (.ops [⟨some 30,.mov (.s 8),none⟩,⟨some 31,.mov (.s 5),none⟩,⟨some 32,.bin .eql (.s 30) (.s 31),none⟩,⟨some 33,.mov (.s 32),none⟩,⟨some 34,.mov (.s 0),some (33,true)⟩,⟨some 35,.mov (.s 7),some (33,true)⟩,⟨some 36,.sstr (.s 34) none (some (.s 35)),some (33,true)⟩,⟨some 37,.mov (.s 1),some (33,true)⟩,⟨some 38,.bin .eql (.s 36) (.s 37),some (33,true)⟩,⟨some 39,.pick (.s 33) (.s 38) (.k (.u (.a (.bool false)))),none⟩])
 (.cond (.s 39)
  (.seq (.ops [⟨some 4,.mov (.k (.u (.a (.int .i64 0)))),none⟩])
  (.ret))
  (.skip)))
 (.seq (.seq (.ops [⟨some 40,.mov (.s 7),none⟩,⟨some 10,.mov (.s 40),none⟩])
 (.block 2
  (.loop internal_bytealg_IndexRabinKarp_string_L1)))
 (.seq (.ops [⟨some 4,.mov (.k (.u (.a (.int .i64 (-1))))),none⟩])
 (.ret)))))))))⟩

def internal_bytealg_hashStr_string_L0 : IC :=
 (.seq (.seq (.ops [⟨some 9,.mov (.s 5),none⟩,⟨some 10,.mov (.s 0),none⟩,⟨some 11,.lens (.s 10),none⟩,⟨some 12,.bin .lss (.s 9) (.s 11),none⟩])
   (.cond (.s 12)
    (.skip)
    (.exit 0)))
   (.seq (.block 1
    (.ops [⟨some 15,.mov (.s 4),none⟩,⟨some 16,.bin .mul (.s 15) (.k (.u (.a (.int .u32 16777619)))),none⟩,⟨some 17,.mov (.s 0),none⟩,⟨some 18,.mov (.s 5),none⟩,⟨some 19,.ixs (.s 17) (.s 18),none⟩,⟨some 20,.cvt .u32 (.s 19),none⟩,⟨some 21,.bin .add (.s 16) (.s 20),none⟩,⟨some 4,.mov (.s 21),none⟩]))
   (.ops [⟨some 13,.mov (.s 5),none⟩,⟨some 14,.bin .add (.s 13) (.k (.u (.a (.int .i64 1)))),none⟩,⟨some 5,.mov (.s 14),none⟩])))
def internal_bytealg_hashStr_string_L1 : IC :=
 (.seq (.seq (.ops [⟨some 24,.mov (.s 8),none⟩,⟨some 25,.bin .gtr (.s 24) (.k (.u (.a (.int .i64 0)))),none⟩])
   (.cond (.s 25)
    (.skip)
    (.exit 2)))
   (.seq (.block 3
    (.seq (.seq (.ops [⟨some 28,.mov (.s 8),none⟩,⟨some 29,.bad,none⟩,⟨some 30,.bin .neq (.s 29) (.k (.u (.a (.int .i64 0)))),none⟩])
    (.cond (.s 30)
     (.ops [⟨some 31,.mov (.s 6),none⟩,⟨some 32,.mov (.s 7),none⟩,⟨some 33,.bin .mul (.s 31) (.s 32),none⟩,⟨some 6,.mov (.s 33),none⟩])
     (.skip)))
    (.ops [⟨some 34,.mov (.s 7),none⟩,⟨some 35,.mov (.s 7),none⟩,⟨some 36,.bin .mul (.s 34) (.s 35),none⟩,⟨some 7,.mov (.s 36),none⟩])))
   (.ops [⟨some 26,.mov (.s 8),none⟩,⟨some 27,.bad,none⟩,⟨some 8,.mov (.s 27),none⟩])))
def internal_bytealg_hashStr_string : Fn := ⟨[.t 2,.t 3],
 (.seq (.ops [⟨some 2,.mov (.k (.u (.a (.int .u32 0)))),none⟩,⟨some 3,.mov (.k (.u (.a (.int .u32 0)))),none⟩])
 (.seq (.ops [⟨some 4,.mov (.k (.u (.a (.int .u32 0)))),none⟩])
 (.seq (.seq (.ops [⟨some 5,.mov (.k (.u (.a (.int .i64 0)))),none⟩])
 (.block 0
  (.loop internal_bytealg_hashStr_string_L0)))
 (.seq (.ops [⟨some 6,.mov (.k (.u (.a (.int .u32 1)))),none⟩,⟨some 7,.mov (.k (.u (.a (.int .u32 16777619)))),none⟩])
 (.seq (.seq (.ops [⟨some 22,.mov (.s 0),none⟩,⟨some 23,.lens (.s 22),none⟩,⟨some 8,.mov (.s 23),none⟩])
 (.block 2
  (.loop internal_bytealg_hashStr_string_L1)))
 (.seq (.ops [⟨some 37,.mov (.s 4),none⟩,⟨some 38,.mov (.s 6),none⟩,⟨some 2,.mov (.s 37),none⟩,⟨some 3,.mov (.s 38),none⟩])
 (.ret)))))))⟩

end Go.AL.F
