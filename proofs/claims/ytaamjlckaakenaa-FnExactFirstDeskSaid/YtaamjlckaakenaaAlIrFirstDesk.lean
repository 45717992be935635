/-
  The code of functions, as the interpreter takes it: printed by a program of mine out of the loaded functions. Checked in each seat.
-/
import Derived.Test.YtaamjlckaakenaaAlDraw
namespace Go.AL.F
set_option linter.unusedSimpArgs false
set_option linter.unusedVariables false

def laws_FnExactFirstDesk : Fn := ⟨[.t 0],
 (.seq (.ops [⟨some 0,.mov (.k (.u (.a (.bool false)))),none⟩])
 (.seq (.ops [⟨some 6,.call 56 [],none⟩,⟨some 1,.alloc [(.str []),.nils,.nils,.nils],none⟩,⟨none,.store 4 (.s 1) (.s 6),none⟩])
 (.seq (.ops [⟨some 7,.call 57 [],none⟩,⟨some 2,.alloc [(.str []),.nils,.nils,.nils],none⟩,⟨none,.store 4 (.s 2) (.s 7),none⟩])
 (.seq (.seq (.ops [⟨some 8,.load true 4 (.s 2),none⟩,⟨some 9,.load true 4 (.s 1),none⟩,⟨some 10,.call 58 [(.s 8),(.s 9)],none⟩,⟨some 11,.not (.s 10),none⟩])
 (.cond (.s 11)
  (.seq (.ops [⟨some 0,.mov (.k (.u (.a (.bool false)))),none⟩])
  (.ret))
  (.skip)))
 (.seq (.ops [⟨some 3,.mov (.k (.u (.a (.int .i64 1)))),none⟩])
 (.seq (.ops [⟨some 12,.load true 4 (.s 2),none⟩,⟨some 13,.mov (.s 3),none⟩,⟨some 14,.call 59 [(.s 12),(.s 13)],none⟩,⟨some 3,.mov (.s 14),none⟩])
 (.seq (.ops [⟨some 4,.mov (.k (.u (.a (.int .i64 1)))),none⟩])
 (.seq (.ops [⟨some 15,.load true 4 (.s 2),none⟩,⟨some 16,.mov (.s 4),none⟩,⟨some 17,.call 60 [(.s 15),(.s 16)],none⟩,⟨some 4,.mov (.s 17),none⟩])
 (.seq (.seq (.ops [⟨some 18,.mov (.s 4),none⟩,⟨some 19,.bin .lss (.s 18) (.k (.u (.a (.int .i64 0)))),none⟩])
 (.cond (.s 19)
  (.seq (.ops [⟨some 0,.mov (.k (.u (.a (.bool false)))),none⟩])
  (.ret))
  (.skip)))
 (.seq (.seq (.ops [⟨some 20,.mov (.s 4),none⟩,⟨some 21,.mov (.s 3),none⟩,⟨some 22,.bin .neq (.s 20) (.s 21),none⟩])
 (.cond (.s 22)
  (.seq (.ops [⟨some 0,.mov (.k (.u (.a (.bool false)))),none⟩])
  (.ret))
  (.skip)))
 (.seq (.ops [⟨some 23,.call 57 [],none⟩,⟨some 5,.alloc [(.str []),.nils,.nils,.nils],none⟩,⟨none,.store 4 (.s 5) (.s 23),none⟩])
 (.seq (.seq (.ops [⟨some 24,.load true 4 (.s 5),none⟩,⟨some 25,.load true 4 (.s 1),none⟩,⟨some 26,.call 58 [(.s 24),(.s 25)],none⟩,⟨some 27,.not (.s 26),none⟩])
 (.cond (.s 27)
  (.seq (.ops [⟨some 0,.mov (.k (.u (.a (.bool false)))),none⟩])
  (.ret))
  (.skip)))
 (.seq (.ops [⟨some 4,.mov (.k (.u (.a (.int .i64 1)))),none⟩])
 (.seq (.ops [⟨some 28,.load true 4 (.s 2),none⟩,⟨some 29,.mov (.s 4),none⟩,⟨some 30,.call 60 [(.s 28),(.s 29)],none⟩,⟨some 4,.mov (.s 30),none⟩])
 (.seq (.seq (.ops [⟨some 31,.mov (.s 4),none⟩,⟨some 32,.bin .lss (.s 31) (.k (.u (.a (.int .i64 0)))),none⟩])
 (.cond (.s 32)
  (.seq (.ops [⟨some 0,.mov (.k (.u (.a (.bool false)))),none⟩])
  (.ret))
  (.skip)))
 (.seq (.seq (.ops [⟨some 33,.mov (.s 4),none⟩,⟨some 34,.mov (.s 3),none⟩,⟨some 35,.bin .neq (.s 33) (.s 34),none⟩])
 (.cond (.s 35)
  (.seq (.ops [⟨some 0,.mov (.k (.u (.a (.bool false)))),none⟩])
  (.ret))
  (.skip)))
 (.seq (.ops [⟨some 0,.mov (.k (.u (.a (.bool true)))),none⟩])
 (.ret))))))))))))))))))⟩

def spec_FirstDesk : Fn := ⟨[.c 0 true 4],
 (.seq (.ops [⟨some 0,.alloc [(.str []),.nils,.nils,.nils],none⟩])
 (.seq (.ops [⟨some 1,.lit [(.int .i64 0)] 4 [(0,1,(.k (.u (.a (.int .i64 5))))),(1,1,(.k (.u (.a (.int .i64 4))))),(2,1,(.k (.u (.a (.int .i64 3))))),(3,1,(.k (.u (.a (.int .i64 3)))))],none⟩,⟨some 2,.lit [(.int .i64 0)] 5 [(0,1,(.k (.u (.a (.int .i64 2))))),(1,1,(.k (.u (.a (.int .i64 5))))),(2,1,(.k (.u (.a (.int .i64 3))))),(3,1,(.k (.u (.a (.int .i64 3))))),(4,1,(.k (.u (.a (.int .i64 1)))))],none⟩,⟨some 3,.lit [(.str [])] 2 [(0,1,(.k (.u (.a (.str [97,97,98]))))),(1,1,(.k (.u (.a (.str [97,46,98])))))],none⟩,⟨some 4,.build [(.str []),.nils,.nils,.nils] [(0,1,(.k (.u (.a (.str [97,98,99,98,97]))))),(1,1,(.s 1)),(2,1,(.s 2)),(3,1,(.s 3))],none⟩,⟨none,.store 4 (.s 0) (.s 4),none⟩])
 (.ret)))⟩

def impl_FirstDesk : Fn := ⟨[.c 0 true 4],
 (.seq (.ops [⟨some 0,.alloc [(.str []),.nils,.nils,.nils],none⟩])
 (.seq (.ops [⟨some 1,.lit [(.int .i64 0)] 4 [(0,1,(.k (.u (.a (.int .i64 5))))),(1,1,(.k (.u (.a (.int .i64 4))))),(2,1,(.k (.u (.a (.int .i64 3))))),(3,1,(.k (.u (.a (.int .i64 3)))))],none⟩,⟨some 2,.lit [(.int .i64 0)] 5 [(0,1,(.k (.u (.a (.int .i64 2))))),(1,1,(.k (.u (.a (.int .i64 5))))),(2,1,(.k (.u (.a (.int .i64 3))))),(3,1,(.k (.u (.a (.int .i64 3))))),(4,1,(.k (.u (.a (.int .i64 1)))))],none⟩,⟨some 3,.lit [(.str [])] 2 [(0,1,(.k (.u (.a (.str [97,97,98]))))),(1,1,(.k (.u (.a (.str [97,46,98])))))],none⟩,⟨some 4,.build [(.str []),.nils,.nils,.nils] [(0,1,(.k (.u (.a (.str [97,98,99,98,97]))))),(1,1,(.s 1)),(2,1,(.s 2)),(3,1,(.s 3))],none⟩,⟨none,.store 4 (.s 0) (.s 4),none⟩])
 (.ret)))⟩

def laws_eqDesk : Fn := ⟨[.t 4],
 (.seq (.ops [⟨some 2,.box (.s 0),none⟩,⟨some 3,.box (.s 1),none⟩,⟨some 4,.mov (.k (.u (.a (.bool false)))),none⟩])
 (.seq (.seq (.ops [⟨some 5,.fadr 0 (.s 2),none⟩,⟨some 6,.load false 1 (.s 5),none⟩,⟨some 7,.fadr 0 (.s 3),none⟩,⟨some 8,.load false 1 (.s 7),none⟩,⟨some 9,.bin .neq (.s 6) (.s 8),none⟩])
 (.cond (.s 9)
  (.seq (.ops [⟨some 4,.mov (.k (.u (.a (.bool false)))),none⟩])
  (.ret))
  (.skip)))
 (.seq (.seq (.ops [⟨some 10,.fadr 1 (.s 2),none⟩,⟨some 11,.load false 1 (.s 10),none⟩,⟨some 12,.fadr 1 (.s 3),none⟩,⟨some 13,.load false 1 (.s 12),none⟩,⟨some 14,.call 270 [(.s 11),(.s 13)],none⟩,⟨some 15,.not (.s 14),none⟩])
 (.cond (.s 15)
  (.seq (.ops [⟨some 4,.mov (.k (.u (.a (.bool false)))),none⟩])
  (.ret))
  (.skip)))
 (.seq (.seq (.ops [⟨some 16,.fadr 2 (.s 2),none⟩,⟨some 17,.load false 1 (.s 16),none⟩,⟨some 18,.fadr 2 (.s 3),none⟩,⟨some 19,.load false 1 (.s 18),none⟩,⟨some 20,.call 270 [(.s 17),(.s 19)],none⟩,⟨some 21,.not (.s 20),none⟩])
 (.cond (.s 21)
  (.seq (.ops [⟨some 4,.mov (.k (.u (.a (.bool false)))),none⟩])
  (.ret))
  (.skip)))
 (.seq (.seq (.ops [⟨some 22,.fadr 3 (.s 2),none⟩,⟨some 23,.load false 1 (.s 22),none⟩,⟨some 24,.fadr 3 (.s 3),none⟩,⟨some 25,.load false 1 (.s 24),none⟩,⟨some 26,.call 126 [(.s 23),(.s 25)],none⟩,⟨some 27,.not (.s 26),none⟩])
 (.cond (.s 27)
  (.seq (.ops [⟨some 4,.mov (.k (.u (.a (.bool false)))),none⟩])
  (.ret))
  (.skip)))
 (.seq (.ops [⟨some 4,.mov (.k (.u (.a (.bool true)))),none⟩])
 (.ret)))))))⟩

def laws_markDesk : Fn := ⟨[.t 4],
 (.seq (.ops [⟨some 2,.box (.s 0),none⟩,⟨some 4,.mov (.k (.u (.a (.int .i64 0)))),none⟩])
 (.seq (.ops [⟨some 5,.fadr 1 (.s 2),none⟩,⟨some 6,.load false 1 (.s 5),none⟩,⟨some 7,.mov (.s 1),none⟩,⟨some 8,.call 272 [(.s 6),(.s 7)],none⟩,⟨some 1,.mov (.s 8),none⟩])
 (.seq (.ops [⟨some 9,.fadr 2 (.s 2),none⟩,⟨some 10,.load false 1 (.s 9),none⟩,⟨some 11,.mov (.s 1),none⟩,⟨some 12,.call 272 [(.s 10),(.s 11)],none⟩,⟨some 1,.mov (.s 12),none⟩])
 (.seq (.ops [⟨some 13,.fadr 3 (.s 2),none⟩,⟨some 14,.load false 1 (.s 13),none⟩,⟨some 15,.mov (.s 1),none⟩,⟨some 16,.call 276 [(.s 14),(.s 15)],none⟩,⟨some 1,.mov (.s 16),none⟩])
 (.seq (.ops [⟨some 17,.mov (.s 1),none⟩,⟨some 4,.mov (.s 17),none⟩])
 (.ret))))))⟩

def laws_heldDesk : Fn := ⟨[.t 4],
 (.seq (.ops [⟨some 2,.box (.s 0),none⟩,⟨some 4,.mov (.k (.u (.a (.int .i64 0)))),none⟩])
 (.seq (.ops [⟨some 5,.fadr 1 (.s 2),none⟩,⟨some 6,.load false 1 (.s 5),none⟩,⟨some 7,.mov (.s 1),none⟩,⟨some 8,.call 273 [(.s 6),(.s 7)],none⟩,⟨some 1,.mov (.s 8),none⟩])
 (.seq (.seq (.ops [⟨some 9,.mov (.s 1),none⟩,⟨some 10,.bin .lss (.s 9) (.k (.u (.a (.int .i64 0)))),none⟩])
 (.cond (.s 10)
  (.seq (.ops [⟨some 4,.mov (.k (.u (.a (.int .i64 (-1))))),none⟩])
  (.ret))
  (.skip)))
 (.seq (.ops [⟨some 11,.fadr 2 (.s 2),none⟩,⟨some 12,.load false 1 (.s 11),none⟩,⟨some 13,.mov (.s 1),none⟩,⟨some 14,.call 273 [(.s 12),(.s 13)],none⟩,⟨some 1,.mov (.s 14),none⟩])
 (.seq (.seq (.ops [⟨some 15,.mov (.s 1),none⟩,⟨some 16,.bin .lss (.s 15) (.k (.u (.a (.int .i64 0)))),none⟩])
 (.cond (.s 16)
  (.seq (.ops [⟨some 4,.mov (.k (.u (.a (.int .i64 (-1))))),none⟩])
  (.ret))
  (.skip)))
 (.seq (.ops [⟨some 17,.fadr 3 (.s 2),none⟩,⟨some 18,.load false 1 (.s 17),none⟩,⟨some 19,.mov (.s 1),none⟩,⟨some 20,.call 277 [(.s 18),(.s 19)],none⟩,⟨some 1,.mov (.s 20),none⟩])
 (.seq (.seq (.ops [⟨some 21,.mov (.s 1),none⟩,⟨some 22,.bin .lss (.s 21) (.k (.u (.a (.int .i64 0)))),none⟩])
 (.cond (.s 22)
  (.seq (.ops [⟨some 4,.mov (.k (.u (.a (.int .i64 (-1))))),none⟩])
  (.ret))
  (.skip)))
 (.seq (.ops [⟨some 23,.mov (.s 1),none⟩,⟨some 4,.mov (.s 23),none⟩])
 (.ret)))))))))⟩

def laws_eqStringS_L0 : IC :=
 (.seq (.seq (.ops [⟨some 11,.mov (.s 5),none⟩,⟨some 12,.mov (.s 0),none⟩,⟨some 13,.len (.s 12),none⟩,⟨some 14,.bin .lss (.s 11) (.s 13),none⟩])
   (.cond (.s 14)
    (.skip)
    (.exit 0)))
   (.seq (.block 1
    (.seq (.dops [⟨⟨some 17,.mov (.s 0),none⟩,[]⟩,⟨⟨some 18,.mov (.s 5),none⟩,[]⟩,⟨⟨some 19,.ia 1 (.s 17) (.s 18),none⟩,[]⟩,⟨⟨some 20,.load false 1 (.s 19),none⟩,[]⟩,⟨⟨some 21,.mov (.s 1),none⟩,[]⟩,⟨⟨some 22,.mov (.s 5),none⟩,[]⟩,⟨⟨some 23,.ia 1 (.s 21) (.s 22),none⟩,[]⟩,⟨⟨some 24,.load false 1 (.s 23),none⟩,[]⟩,⟨⟨some 25,.bin .neq (.s 20) (.s 24),none⟩,[]⟩])
    (.cond (.s 25)
     (.seq (.ops [⟨some 4,.mov (.k (.u (.a (.bool false)))),none⟩])
     (.ret))
     (.skip))))
   (.ops [⟨some 15,.mov (.s 5),none⟩,⟨some 16,.bin .add (.s 15) (.k (.u (.a (.int .i64 1)))),none⟩,⟨some 5,.mov (.s 16),none⟩])))
def laws_eqStringS : Fn := ⟨[.t 4],
 (.seq (.ops [⟨some 4,.mov (.k (.u (.a (.bool false)))),none⟩])
 (.seq (.seq (.ops [⟨some 6,.mov (.s 0),none⟩,⟨some 7,.len (.s 6),none⟩,⟨some 8,.mov (.s 1),none⟩,⟨some 9,.len (.s 8),none⟩,⟨some 10,.bin .neq (.s 7) (.s 9),none⟩])
 (.cond (.s 10)
  (.seq (.ops [⟨some 4,.mov (.k (.u (.a (.bool false)))),none⟩])
  (.ret))
  (.skip)))
 (.seq (.seq (.ops [⟨some 5,.mov (.k (.u (.a (.int .i64 0)))),none⟩])
 (.block 0
  (.loop laws_eqStringS_L0)))
 (.seq (.ops [⟨some 4,.mov (.k (.u (.a (.bool true)))),none⟩])
 (.ret)))))⟩

def laws_eqIntS_L0 : IC :=
 (.seq (.seq (.ops [⟨some 11,.mov (.s 5),none⟩,⟨some 12,.mov (.s 0),none⟩,⟨some 13,.len (.s 12),none⟩,⟨some 14,.bin .lss (.s 11) (.s 13),none⟩])
   (.cond (.s 14)
    (.skip)
    (.exit 0)))
   (.seq (.block 1
    (.seq (.dops [⟨⟨some 17,.mov (.s 0),none⟩,[]⟩,⟨⟨some 18,.mov (.s 5),none⟩,[]⟩,⟨⟨some 19,.ia 1 (.s 17) (.s 18),none⟩,[]⟩,⟨⟨some 20,.load false 1 (.s 19),none⟩,[]⟩,⟨⟨some 21,.mov (.s 1),none⟩,[]⟩,⟨⟨some 22,.mov (.s 5),none⟩,[]⟩,⟨⟨some 23,.ia 1 (.s 21) (.s 22),none⟩,[]⟩,⟨⟨some 24,.load false 1 (.s 23),none⟩,[]⟩,⟨⟨some 25,.bin .neq (.s 20) (.s 24),none⟩,[]⟩])
    (.cond (.s 25)
     (.seq (.ops [⟨some 4,.mov (.k (.u (.a (.bool false)))),none⟩])
     (.ret))
     (.skip))))
   (.ops [⟨some 15,.mov (.s 5),none⟩,⟨some 16,.bin .add (.s 15) (.k (.u (.a (.int .i64 1)))),none⟩,⟨some 5,.mov (.s 16),none⟩])))
def laws_eqIntS : Fn := ⟨[.t 4],
 (.seq (.ops [⟨some 4,.mov (.k (.u (.a (.bool false)))),none⟩])
 (.seq (.seq (.ops [⟨some 6,.mov (.s 0),none⟩,⟨some 7,.len (.s 6),none⟩,⟨some 8,.mov (.s 1),none⟩,⟨some 9,.len (.s 8),none⟩,⟨some 10,.bin .neq (.s 7) (.s 9),none⟩])
 (.cond (.s 10)
  (.seq (.ops [⟨some 4,.mov (.k (.u (.a (.bool false)))),none⟩])
  (.ret))
  (.skip)))
 (.seq (.seq (.ops [⟨some 5,.mov (.k (.u (.a (.int .i64 0)))),none⟩])
 (.block 0
  (.loop laws_eqIntS_L0)))
 (.seq (.ops [⟨some 4,.mov (.k (.u (.a (.bool true)))),none⟩])
 (.ret)))))⟩

def laws_markIntS_L0 : IC :=
 (.seq (.seq (.ops [⟨some 6,.mov (.s 5),none⟩,⟨some 7,.mov (.s 0),none⟩,⟨some 8,.len (.s 7),none⟩,⟨some 9,.bin .lss (.s 6) (.s 8),none⟩])
   (.cond (.s 9)
    (.skip)
    (.exit 0)))
   (.seq (.block 1
    (.seq (.ops [⟨some 12,.mov (.s 0),none⟩,⟨some 13,.mov (.s 5),none⟩,⟨some 14,.mov (.s 1),none⟩,⟨some 15,.ia 1 (.s 12) (.s 13),none⟩,⟨none,.store 1 (.s 15) (.s 14),none⟩])
    (.ops [⟨some 16,.mov (.s 1),none⟩,⟨some 17,.bin .add (.s 16) (.k (.u (.a (.int .i64 1)))),none⟩,⟨some 1,.mov (.s 17),none⟩])))
   (.ops [⟨some 10,.mov (.s 5),none⟩,⟨some 11,.bin .add (.s 10) (.k (.u (.a (.int .i64 1)))),none⟩,⟨some 5,.mov (.s 11),none⟩])))
def laws_markIntS : Fn := ⟨[.t 4],
 (.seq (.ops [⟨some 4,.mov (.k (.u (.a (.int .i64 0)))),none⟩])
 (.seq (.seq (.ops [⟨some 5,.mov (.k (.u (.a (.int .i64 0)))),none⟩])
 (.block 0
  (.loop laws_markIntS_L0)))
 (.seq (.ops [⟨some 18,.mov (.s 1),none⟩,⟨some 4,.mov (.s 18),none⟩])
 (.ret))))⟩

def laws_heldIntS_L0 : IC :=
 (.seq (.seq (.ops [⟨some 6,.mov (.s 5),none⟩,⟨some 7,.mov (.s 0),none⟩,⟨some 8,.len (.s 7),none⟩,⟨some 9,.bin .lss (.s 6) (.s 8),none⟩])
   (.cond (.s 9)
    (.skip)
    (.exit 0)))
   (.seq (.block 1
    (.seq (.seq (.ops [⟨some 12,.mov (.s 0),none⟩,⟨some 13,.mov (.s 5),none⟩,⟨some 14,.ia 1 (.s 12) (.s 13),none⟩,⟨some 15,.load false 1 (.s 14),none⟩,⟨some 16,.mov (.s 1),none⟩,⟨some 17,.bin .neq (.s 15) (.s 16),none⟩])
    (.cond (.s 17)
     (.seq (.ops [⟨some 4,.mov (.k (.u (.a (.int .i64 (-1))))),none⟩])
     (.ret))
     (.skip)))
    (.ops [⟨some 18,.mov (.s 1),none⟩,⟨some 19,.bin .add (.s 18) (.k (.u (.a (.int .i64 1)))),none⟩,⟨some 1,.mov (.s 19),none⟩])))
   (.ops [⟨some 10,.mov (.s 5),none⟩,⟨some 11,.bin .add (.s 10) (.k (.u (.a (.int .i64 1)))),none⟩,⟨some 5,.mov (.s 11),none⟩])))
def laws_heldIntS : Fn := ⟨[.t 4],
 (.seq (.ops [⟨some 4,.mov (.k (.u (.a (.int .i64 0)))),none⟩])
 (.seq (.seq (.ops [⟨some 5,.mov (.k (.u (.a (.int .i64 0)))),none⟩])
 (.block 0
  (.loop laws_heldIntS_L0)))
 (.seq (.ops [⟨some 20,.mov (.s 1),none⟩,⟨some 4,.mov (.s 20),none⟩])
 (.ret))))⟩

def laws_markStringS_L0 : IC :=
 (.seq (.seq (.ops [⟨some 6,.mov (.s 5),none⟩,⟨some 7,.mov (.s 0),none⟩,⟨some 8,.len (.s 7),none⟩,⟨some 9,.bin .lss (.s 6) (.s 8),none⟩])
   (.cond (.s 9)
    (.skip)
    (.exit 0)))
   (.seq (.block 1
    (.seq (.ops [⟨some 12,.mov (.s 0),none⟩,⟨some 13,.mov (.s 5),none⟩,⟨some 14,.mov (.s 1),none⟩,⟨some 15,.call 687 [(.s 14)],none⟩,⟨some 16,.ia 1 (.s 12) (.s 13),none⟩,⟨none,.store 1 (.s 16) (.s 15),none⟩])
    (.ops [⟨some 17,.mov (.s 1),none⟩,⟨some 18,.bin .add (.s 17) (.k (.u (.a (.int .i64 1)))),none⟩,⟨some 1,.mov (.s 18),none⟩])))
   (.ops [⟨some 10,.mov (.s 5),none⟩,⟨some 11,.bin .add (.s 10) (.k (.u (.a (.int .i64 1)))),none⟩,⟨some 5,.mov (.s 11),none⟩])))
def laws_markStringS : Fn := ⟨[.t 4],
 (.seq (.ops [⟨some 4,.mov (.k (.u (.a (.int .i64 0)))),none⟩])
 (.seq (.seq (.ops [⟨some 5,.mov (.k (.u (.a (.int .i64 0)))),none⟩])
 (.block 0
  (.loop laws_markStringS_L0)))
 (.seq (.ops [⟨some 19,.mov (.s 1),none⟩,⟨some 4,.mov (.s 19),none⟩])
 (.ret))))⟩

def laws_heldStringS_L0 : IC :=
 (.seq (.seq (.ops [⟨some 6,.mov (.s 5),none⟩,⟨some 7,.mov (.s 0),none⟩,⟨some 8,.len (.s 7),none⟩,⟨some 9,.bin .lss (.s 6) (.s 8),none⟩])
   (.cond (.s 9)
    (.skip)
    (.exit 0)))
   (.seq (.block 1
    (.seq (.seq (.dops [⟨⟨some 12,.mov (.s 0),none⟩,[]⟩,⟨⟨some 13,.mov (.s 5),none⟩,[]⟩,⟨⟨some 14,.ia 1 (.s 12) (.s 13),none⟩,[]⟩,⟨⟨some 15,.load false 1 (.s 14),none⟩,[]⟩,⟨⟨some 16,.mov (.s 1),none⟩,[]⟩,⟨⟨some 17,.call 687 [(.s 16)],none⟩,[⟨some 15,.load false 1 (.s 14),none⟩]⟩,⟨⟨some 18,.bin .neq (.s 15) (.s 17),none⟩,[]⟩])
    (.cond (.s 18)
     (.seq (.ops [⟨some 4,.mov (.k (.u (.a (.int .i64 (-1))))),none⟩])
     (.ret))
     (.skip)))
    (.ops [⟨some 19,.mov (.s 1),none⟩,⟨some 20,.bin .add (.s 19) (.k (.u (.a (.int .i64 1)))),none⟩,⟨some 1,.mov (.s 20),none⟩])))
   (.ops [⟨some 10,.mov (.s 5),none⟩,⟨some 11,.bin .add (.s 10) (.k (.u (.a (.int .i64 1)))),none⟩,⟨some 5,.mov (.s 11),none⟩])))
def laws_heldStringS : Fn := ⟨[.t 4],
 (.seq (.ops [⟨some 4,.mov (.k (.u (.a (.int .i64 0)))),none⟩])
 (.seq (.seq (.ops [⟨some 5,.mov (.k (.u (.a (.int .i64 0)))),none⟩])
 (.block 0
  (.loop laws_heldStringS_L0)))
 (.seq (.ops [⟨some 21,.mov (.s 1),none⟩,⟨some 4,.mov (.s 21),none⟩])
 (.ret))))⟩

def laws_markText_L0 : IC :=
 (.seq (.seq (.ops [⟨some 6,.mov (.s 0),none⟩,⟨some 7,.bin .gtr (.s 6) (.k (.u (.a (.int .i64 0)))),none⟩])
   (.cond (.s 7)
    (.skip)
    (.exit 0)))
   (.block 1
    (.seq (.ops [⟨some 8,.mov (.s 0),none⟩,⟨some 9,.bin .rem (.s 8) (.k (.u (.a (.int .i64 10)))),none⟩,⟨some 10,.bin .add (.k (.u (.a (.int .i64 48)))) (.s 9),none⟩,⟨some 11,.cvt .u8 (.s 10),none⟩,⟨some 12,.lit [(.int .u8 0)] 1 [(0,1,(.s 11))],none⟩,⟨some 13,.b2s (.s 12),none⟩,⟨some 14,.mov (.s 3),none⟩,⟨some 15,.bin .add (.s 13) (.s 14),none⟩,⟨some 3,.mov (.s 15),none⟩])
    (.ops [⟨some 16,.mov (.s 0),none⟩,⟨some 17,.bin .quo (.s 16) (.k (.u (.a (.int .i64 10)))),none⟩,⟨some 0,.mov (.s 17),none⟩]))))
def laws_markText : Fn := ⟨[.t 2],
 (.seq (.ops [⟨some 2,.mov (.k (.u (.a (.str [])))),none⟩])
 (.seq (.seq (.ops [⟨some 4,.mov (.s 0),none⟩,⟨some 5,.bin .leq (.s 4) (.k (.u (.a (.int .i64 0)))),none⟩])
 (.cond (.s 5)
  (.seq (.ops [⟨some 2,.mov (.k (.u (.a (.str [109,48])))),none⟩])
  (.ret))
  (.skip)))
 (.seq (.ops [⟨some 3,.mov (.k (.u (.a (.str [])))),none⟩])
 (.seq (.block 0
  (.loop laws_markText_L0))
 (.seq (.ops [⟨some 18,.mov (.s 3),none⟩,⟨some 19,.bin .add (.k (.u (.a (.str [109])))) (.s 18),none⟩,⟨some 2,.mov (.s 19),none⟩])
 (.ret))))))⟩

end Go.AL.F
