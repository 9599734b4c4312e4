/- The abstract code of the functions, printed by an own tool (gen.py), each checked against the program. -/
import Derived.Test.YtabipibmfjkedaaGreatProg
import Derived.Test.YtabipibmfjkedaaGreatAb31
import Derived.KernelRfl
set_option maxRecDepth 100000
set_option linter.unusedVariables false
namespace Go.Proofs.YtabipibmfjkedaaGreat
open Go.Ab

/-- scrivener/scrivenerlaw15.ViewsOfNothing -/
def c6 : BCode :=
  (.seq (.reg [B 2 (.asg (.k (.c (.bool false))))] [0])
  (.seq (.reg [B 3 (.asg (.k (.c (.nilp))))] [0, 3])
  (.seq (.reg [B 7 (.mv (.t 3)), B 8 (.mv (.t 0)), B 9 (.mv (.t 0)), B 10 (.call 23 [(.t 7), (.t 8), (.t 9)]), B 6 (.mv (.t 10)), B 11 (.extract 0 (.t 6)), B 12 (.extract 1 (.t 6)), B 4 (.alloc [.int .i64 0, .int .i64 0, .int .i64 0, .int .i64 0, .int .i64 0, .int .i64 0, .str [], .sl 1 [] .nil, .sl 6 [] .nil, .bool false, .bool false, .int .i64 0, .int .i64 0, .int .i64 0]), Bn (.store 14 (.t 4) (.t 11)), B 5 (.asg (.t 12))] [0, 3, 4, 5])
  (.seq (.reg [B 13 (.mv (.t 3)), B 14 (.build [.int .i64 0, .int .i64 0, .int .i64 0, .int .u8 0, .int .u8 0, .int .u8 0, .int .u8 0, .int .u8 0, .int .u8 0, .int .u8 0, .int .u8 0, .int .u8 0, .int .u8 0, .int .u8 0, .int .u8 0, .int .u8 0, .int .u8 0, .int .u8 0, .int .u8 0, .int .u8 0, .int .u8 0, .int .u8 0, .int .u8 0, .int .u8 0, .int .u8 0, .int .u8 0, .int .u8 0, .int .u8 0, .int .u8 0, .int .u8 0, .int .u8 0, .int .u8 0, .int .u8 0, .int .u8 0, .int .u8 0, .sl 46 [] .nil] []), B 15 (.call 17 [(.t 13), (.t 14)]), B 16 (.bin .eq (.t 15) (.k (.c (.int .i64 1)))), B 17 (.mv (.t 16)), Bg 18 (.mv (.t 3)) 17 true, Bg 19 (.call 24 [(.t 18)]) 17 true, Bg 20 (.bin .eqnil (.t 19) (.k (.c (.nilp)))) 17 true, B 21 (.pick (.t 17) (.t 20) (.k (.c (.bool false)))), B 22 (.mv (.t 21)), Bg 23 (.mv (.t 3)) 22 true, Bg 24 (.call 20 [(.t 23)]) 22 true, Bg 25 (.bin .eqnil (.t 24) (.k (.c (.nilp)))) 22 true, B 26 (.pick (.t 22) (.t 25) (.k (.c (.bool false)))), B 27 (.mv (.t 26)), Bg 28 (.load true 14 (.t 4)) 27 true, Bg 29 (.build [.int .i64 0, .int .i64 0, .int .i64 0, .int .i64 0, .int .i64 0, .int .i64 0, .str [], .sl 1 [] .nil, .sl 6 [] .nil, .bool false, .bool false, .int .i64 0, .int .i64 0, .int .i64 0] []) 27 true, Bg 30 (.call 25 [(.t 28), (.t 29)]) 27 true, B 31 (.pick (.t 27) (.t 30) (.k (.c (.bool false)))), B 32 (.mv (.t 31)), Bg 33 (.mv (.t 5)) 32 true, Bg 34 (.not (.t 33)) 32 true, B 35 (.pick (.t 32) (.t 34) (.k (.c (.bool false)))), B 36 (.mv (.t 35)), Bg 37 (.mv (.t 3)) 36 true, Bg 38 (.mv (.t 0)) 36 true, Bg 39 (.call 26 [(.t 37), (.t 38)]) 36 true, Bg 40 (.len (.t 39)) 36 true, Bg 41 (.mv (.t 3)) 36 true, Bg 42 (.mv (.t 0)) 36 true, Bg 43 (.call 22 [(.t 41), (.t 42)]) 36 true, Bg 44 (.len (.t 43)) 36 true, Bg 45 (.bin .add (.t 40) (.t 44)) 36 true, Bg 46 (.mv (.t 3)) 36 true, Bg 47 (.mv (.t 0)) 36 true, Bg 48 (.call 27 [(.t 46), (.t 47)]) 36 true, Bg 49 (.bin .add (.t 45) (.t 48)) 36 true, Bg 50 (.mv (.t 3)) 36 true, Bg 51 (.call 28 [(.t 50)]) 36 true, Bg 52 (.bin .add (.t 49) (.t 51)) 36 true, Bg 53 (.bin .eq (.t 52) (.k (.c (.int .i64 0)))) 36 true, B 54 (.pick (.t 36) (.t 53) (.k (.c (.bool false)))), B 55 (.mv (.t 54)), Bg 56 (.call 13 []) 55 true, B 57 (.pick (.t 55) (.t 56) (.k (.c (.bool false)))), B 2 (.asg (.t 57))] [2])
  .ret))))
def r6 : List ARes := [.tmp 2]
theorem k6 : bChk Tryz.prog 6 Tryz.f6 1 c6 r6 = true := by kernel_rfl
theorem p6 : Tryz.prog.funcs[6]? = some Tryz.f6 := by kernel_rfl

/-- scrivener/scrivenerlaw15.known -/
def c13 : BCode :=
  (.seq (.reg [B 0 (.asg (.k (.c (.bool false))))] [])
  (.seq (.reg [B 5 (.call 14 []), B 1 (.asg (.t 5))] [1])
  (.seq (.reg [B 6 (.call 15 []), B 2 (.asg (.t 6))] [1, 2])
  (.seq (.reg [B 7 (.build [.int .i64 0, .int .i64 0, .int .i64 0, .str [], .sl 1 [] .nil, .sl 6 [] .nil] [(0, 1, (.k (.c (.int .i64 3)))), (1, 1, (.k (.c (.int .i64 1))))]), B 3 (.alloc [.int .i64 0, .int .i64 0, .int .i64 0, .str [], .sl 1 [] .nil, .sl 6 [] .nil]), Bn (.store 6 (.t 3) (.t 7))] [1, 2, 3])
  (.seq (.reg [B 8 (.mv (.t 2)), B 9 (.build [.int .i64 0, .int .i64 0, .int .i64 0, .int .i64 0, .int .i64 0, .int .i64 0, .int .i64 0, .str [], .sl 1 [] .nil, .sl 6 [] .nil, .str [], .int .i64 0, .str [], .int .i64 0, .int .i64 0, .int .i64 0, .int .i64 0, .int .i64 0, .int .i64 0, .str [], .sl 1 [] .nil, .sl 6 [] .nil, .int .u8 0, .int .u8 0, .int .u8 0, .int .u8 0, .int .u8 0, .int .u8 0, .int .u8 0, .int .u8 0, .int .u8 0, .int .u8 0, .int .u8 0, .int .u8 0, .int .u8 0, .int .u8 0, .int .u8 0, .int .u8 0, .int .u8 0, .int .u8 0, .int .u8 0, .int .u8 0, .int .u8 0, .int .u8 0, .int .u8 0, .int .u8 0, .int .u8 0, .int .u8 0, .int .u8 0, .int .u8 0, .int .u8 0, .int .u8 0, .int .u8 0, .int .u8 0, .bool false, .int .i64 0, .int .i64 0] [(0, 1, (.k (.c (.int .i64 4)))), (10, 1, (.k (.c (.str [116]))))]), B 10 (.load true 6 (.t 3)), B 11 (.build [.int .i64 0, .int .i64 0, .int .i64 0, .int .i64 0, .int .i64 0, .int .i64 0, .int .i64 0, .str [], .sl 1 [] .nil, .sl 6 [] .nil, .str [], .int .i64 0, .str [], .int .i64 0, .int .i64 0, .int .i64 0, .int .i64 0, .int .i64 0, .int .i64 0, .str [], .sl 1 [] .nil, .sl 6 [] .nil, .int .u8 0, .int .u8 0, .int .u8 0, .int .u8 0, .int .u8 0, .int .u8 0, .int .u8 0, .int .u8 0, .int .u8 0, .int .u8 0, .int .u8 0, .int .u8 0, .int .u8 0, .int .u8 0, .int .u8 0, .int .u8 0, .int .u8 0, .int .u8 0, .int .u8 0, .int .u8 0, .int .u8 0, .int .u8 0, .int .u8 0, .int .u8 0, .int .u8 0, .int .u8 0, .int .u8 0, .int .u8 0, .int .u8 0, .int .u8 0, .int .u8 0, .int .u8 0, .bool false, .int .i64 0, .int .i64 0] [(0, 1, (.k (.c (.int .i64 0)))), (1, 1, (.k (.c (.int .i64 1)))), (4, 6, (.t 10))]), B 12 (.load true 6 (.t 3)), B 13 (.build [.int .i64 0, .int .i64 0, .int .i64 0, .int .i64 0, .int .i64 0, .int .i64 0, .int .i64 0, .str [], .sl 1 [] .nil, .sl 6 [] .nil, .str [], .int .i64 0, .str [], .int .i64 0, .int .i64 0, .int .i64 0, .int .i64 0, .int .i64 0, .int .i64 0, .str [], .sl 1 [] .nil, .sl 6 [] .nil, .int .u8 0, .int .u8 0, .int .u8 0, .int .u8 0, .int .u8 0, .int .u8 0, .int .u8 0, .int .u8 0, .int .u8 0, .int .u8 0, .int .u8 0, .int .u8 0, .int .u8 0, .int .u8 0, .int .u8 0, .int .u8 0, .int .u8 0, .int .u8 0, .int .u8 0, .int .u8 0, .int .u8 0, .int .u8 0, .int .u8 0, .int .u8 0, .int .u8 0, .int .u8 0, .int .u8 0, .int .u8 0, .int .u8 0, .int .u8 0, .int .u8 0, .int .u8 0, .bool false, .int .i64 0, .int .i64 0] [(0, 1, (.k (.c (.int .i64 1)))), (1, 1, (.k (.c (.int .i64 1)))), (2, 1, (.k (.c (.int .i64 1)))), (4, 6, (.t 12))]), B 14 (.slR 57 3 [.int .i64 0, .int .i64 0, .int .i64 0, .int .i64 0, .int .i64 0, .int .i64 0, .int .i64 0, .str [], .sl 1 [] .nil, .sl 6 [] .nil, .str [], .int .i64 0, .str [], .int .i64 0, .int .i64 0, .int .i64 0, .int .i64 0, .int .i64 0, .int .i64 0, .str [], .sl 1 [] .nil, .sl 6 [] .nil, .int .u8 0, .int .u8 0, .int .u8 0, .int .u8 0, .int .u8 0, .int .u8 0, .int .u8 0, .int .u8 0, .int .u8 0, .int .u8 0, .int .u8 0, .int .u8 0, .int .u8 0, .int .u8 0, .int .u8 0, .int .u8 0, .int .u8 0, .int .u8 0, .int .u8 0, .int .u8 0, .int .u8 0, .int .u8 0, .int .u8 0, .int .u8 0, .int .u8 0, .int .u8 0, .int .u8 0, .int .u8 0, .int .u8 0, .int .u8 0, .int .u8 0, .int .u8 0, .bool false, .int .i64 0, .int .i64 0, .int .i64 0, .int .i64 0, .int .i64 0, .int .i64 0, .int .i64 0, .int .i64 0, .int .i64 0, .str [], .sl 1 [] .nil, .sl 6 [] .nil, .str [], .int .i64 0, .str [], .int .i64 0, .int .i64 0, .int .i64 0, .int .i64 0, .int .i64 0, .int .i64 0, .str [], .sl 1 [] .nil, .sl 6 [] .nil, .int .u8 0, .int .u8 0, .int .u8 0, .int .u8 0, .int .u8 0, .int .u8 0, .int .u8 0, .int .u8 0, .int .u8 0, .int .u8 0, .int .u8 0, .int .u8 0, .int .u8 0, .int .u8 0, .int .u8 0, .int .u8 0, .int .u8 0, .int .u8 0, .int .u8 0, .int .u8 0, .int .u8 0, .int .u8 0, .int .u8 0, .int .u8 0, .int .u8 0, .int .u8 0, .int .u8 0, .int .u8 0, .int .u8 0, .int .u8 0, .int .u8 0, .int .u8 0, .bool false, .int .i64 0, .int .i64 0, .int .i64 0, .int .i64 0, .int .i64 0, .int .i64 0, .int .i64 0, .int .i64 0, .int .i64 0, .str [], .sl 1 [] .nil, .sl 6 [] .nil, .str [], .int .i64 0, .str [], .int .i64 0, .int .i64 0, .int .i64 0, .int .i64 0, .int .i64 0, .int .i64 0, .str [], .sl 1 [] .nil, .sl 6 [] .nil, .int .u8 0, .int .u8 0, .int .u8 0, .int .u8 0, .int .u8 0, .int .u8 0, .int .u8 0, .int .u8 0, .int .u8 0, .int .u8 0, .int .u8 0, .int .u8 0, .int .u8 0, .int .u8 0, .int .u8 0, .int .u8 0, .int .u8 0, .int .u8 0, .int .u8 0, .int .u8 0, .int .u8 0, .int .u8 0, .int .u8 0, .int .u8 0, .int .u8 0, .int .u8 0, .int .u8 0, .int .u8 0, .int .u8 0, .int .u8 0, .int .u8 0, .int .u8 0, .bool false, .int .i64 0, .int .i64 0] [(0, 57, (.t 9)), (57, 57, (.t 11)), (114, 57, (.t 13))]), B 15 (.call 16 [(.t 8), (.t 14)]), B 4 (.alloc [.int .i64 0, .int .i64 0, .int .i64 0, .int .u8 0, .int .u8 0, .int .u8 0, .int .u8 0, .int .u8 0, .int .u8 0, .int .u8 0, .int .u8 0, .int .u8 0, .int .u8 0, .int .u8 0, .int .u8 0, .int .u8 0, .int .u8 0, .int .u8 0, .int .u8 0, .int .u8 0, .int .u8 0, .int .u8 0, .int .u8 0, .int .u8 0, .int .u8 0, .int .u8 0, .int .u8 0, .int .u8 0, .int .u8 0, .int .u8 0, .int .u8 0, .int .u8 0, .int .u8 0, .int .u8 0, .int .u8 0, .sl 46 [] .nil]), Bn (.store 36 (.t 4) (.t 15))] [1, 2, 4])
  (.seq (.reg [B 16 (.mv (.t 1)), B 17 (.load true 36 (.t 4)), B 18 (.call 17 [(.t 16), (.t 17)]), B 19 (.bin .eq (.t 18) (.k (.c (.int .i64 0)))), B 20 (.mv (.t 19)), Bg 21 (.mv (.t 2)) 20 true, Bg 22 (.load true 36 (.t 4)) 20 true, Bg 23 (.call 18 [(.t 21), (.t 22)]) 20 true, Bg 24 (.bin .eq (.t 23) (.k (.c (.int .i64 0)))) 20 true, B 25 (.pick (.t 20) (.t 24) (.k (.c (.bool false)))), B 26 (.mv (.t 25)), Bg 27 (.mv (.t 1)) 26 true, Bg 28 (.mv (.t 2)) 26 true, Bg 29 (.call 19 [(.t 27), (.t 28)]) 26 true, B 30 (.pick (.t 26) (.t 29) (.k (.c (.bool false)))), B 31 (.mv (.t 30)), Bg 32 (.mv (.t 1)) 31 true, Bg 33 (.call 26 [(.t 32), (.k (.c (.int .i64 1)))]) 31 true, Bg 34 (.len (.t 33)) 31 true, Bg 35 (.bin .eq (.t 34) (.k (.c (.int .i64 1)))) 31 true, B 36 (.pick (.t 31) (.t 35) (.k (.c (.bool false)))), B 37 (.mv (.t 36)), Bg 38 (.mv (.t 1)) 37 true, Bg 39 (.call 22 [(.t 38), (.k (.c (.int .i64 1)))]) 37 true, Bg 40 (.len (.t 39)) 37 true, Bg 41 (.bin .eq (.t 40) (.k (.c (.int .i64 2)))) 37 true, B 42 (.pick (.t 37) (.t 41) (.k (.c (.bool false)))), B 0 (.asg (.t 42))] [0])
  .ret))))))
def r13 : List ARes := [.tmp 0]
theorem k13 : bChk Tryz.prog 13 Tryz.f13 0 c13 r13 = true := by kernel_rfl
theorem p13 : Tryz.prog.funcs[13]? = some Tryz.f13 := by kernel_rfl

/-- scrivener/views.New -/
def c14 : BCode :=
  (.seq (.reg [B 0 (.asg (.k (.c (.nilp))))] [])
  (.seq (.reg [B 1 (.call 45 []), B 2 (.mkmap), B 3 (.mkmap), B 4 (.mkmap), B 5 (.mkmap), B 6 (.build [.nilp, .nilmap, .nilmap, .nilmap, .nilmap, .int .i64 0] [(0, 1, (.t 1)), (1, 1, (.t 2)), (2, 1, (.t 3)), (3, 1, (.t 4)), (4, 1, (.t 5))]), B 7 (.box (.t 6)), B 0 (.asg (.t 7))] [0])
  .ret))
def r14 : List ARes := [.tmp 0]
theorem k14 : bChk Tryz.prog 14 Tryz.f14 0 c14 r14 = true := by kernel_rfl
theorem p14 : Tryz.prog.funcs[14]? = some Tryz.f14 := by kernel_rfl

/-- scrivener/scrivenerref15.New -/
def c15 : BCode :=
  (.seq (.reg [B 0 (.asg (.k (.c (.nilp))))] [])
  (.seq (.reg [B 1 (.build [.sl 4 [] .nil] []), B 2 (.box (.t 1)), B 3 (.mkmap), B 4 (.build [.nilp, .sl 14 [] .nil, .int .i64 0, .nilmap] [(0, 1, (.t 2)), (3, 1, (.t 3))]), B 5 (.box (.t 4)), B 0 (.asg (.t 5))] [0])
  .ret))
def r15 : List ARes := [.tmp 0]
theorem k15 : bChk Tryz.prog 15 Tryz.f15 0 c15 r15 = true := by kernel_rfl
theorem p15 : Tryz.prog.funcs[15]? = some Tryz.f15 := by kernel_rfl

/-- scrivener/scrivenerlaw15.made -/
def c16 : BCode :=
  (.seq (.reg [B 4 (.alloc [.int .i64 0, .int .i64 0, .int .i64 0, .int .u8 0, .int .u8 0, .int .u8 0, .int .u8 0, .int .u8 0, .int .u8 0, .int .u8 0, .int .u8 0, .int .u8 0, .int .u8 0, .int .u8 0, .int .u8 0, .int .u8 0, .int .u8 0, .int .u8 0, .int .u8 0, .int .u8 0, .int .u8 0, .int .u8 0, .int .u8 0, .int .u8 0, .int .u8 0, .int .u8 0, .int .u8 0, .int .u8 0, .int .u8 0, .int .u8 0, .int .u8 0, .int .u8 0, .int .u8 0, .int .u8 0, .int .u8 0, .sl 46 [] .nil])] [0, 1, 4])
  (.seq (.regd [Oo 8 (.mv (.t 0)), Oo 9 (.nilck (.t 8)), Oo 10 (.fadr 2 (.t 9)), Oo 11 (.load false 1 (.t 10)), Oo 12 (.mv (.t 0)), Oo 13 (.nilck (.t 12)), Oo 14 (.fadr 2 (.t 13)), Oo 15 (.load false 1 (.t 14)), Oo 16 (.bin .mul (.k (.c (.int .i64 7))) (.t 15)), Oo 17 (.build [.int .i64 0, .int .i64 0, .int .i64 0, .int .u8 0, .int .u8 0, .int .u8 0, .int .u8 0, .int .u8 0, .int .u8 0, .int .u8 0, .int .u8 0, .int .u8 0, .int .u8 0, .int .u8 0, .int .u8 0, .int .u8 0, .int .u8 0, .int .u8 0, .int .u8 0, .int .u8 0, .int .u8 0, .int .u8 0, .int .u8 0, .int .u8 0, .int .u8 0, .int .u8 0, .int .u8 0, .int .u8 0, .int .u8 0, .int .u8 0, .int .u8 0, .int .u8 0, .int .u8 0, .int .u8 0, .int .u8 0, .sl 46 [] .nil] [(0, 1, (.t 11)), (1, 1, (.t 16))]), Oo 5 (.alloc [.int .i64 0, .int .i64 0, .int .i64 0, .int .u8 0, .int .u8 0, .int .u8 0, .int .u8 0, .int .u8 0, .int .u8 0, .int .u8 0, .int .u8 0, .int .u8 0, .int .u8 0, .int .u8 0, .int .u8 0, .int .u8 0, .int .u8 0, .int .u8 0, .int .u8 0, .int .u8 0, .int .u8 0, .int .u8 0, .int .u8 0, .int .u8 0, .int .u8 0, .int .u8 0, .int .u8 0, .int .u8 0, .int .u8 0, .int .u8 0, .int .u8 0, .int .u8 0, .int .u8 0, .int .u8 0, .int .u8 0, .sl 46 [] .nil]), On (.store 36 (.t 5) (.t 17))]
    (.fl 0 (.fl 1 (.fl 2 (.fl 3 (.fl 4 (.fl 5 (.fl 6 (.fl 7 (.fl 8 (.fl 9 (.ch 10 [3, 7] (.ch 11 [] .done)))))))))))) [0, 1, 4, 5])
  (.seq (.reg [B 18 (.mv (.t 0)), B 19 (.call 46 [(.t 18)]), B 6 (.asg (.t 19))] [1, 4, 5, 6])
  (.seq (.seq (.reg [B 7 (.asg (.k (.c (.int .i64 0))))] [1, 4, 5, 6, 7])
  (.block 0 (.loop (.seq (.seq (.reg [B 20 (.mv (.t 7)), B 21 (.mv (.t 1)), B 22 (.len (.t 21)), B 23 (.bin .lt (.t 20) (.t 22))] [1, 4, 5, 6, 7, 23])
  (.cond (.t 23) .skip
  (.exit 0)))
  (.seq (.block 1 (.seq (.regd [Oo 26 (.fadr 35 (.t 5)), Oo 27 (.load false 1 (.t 26)), Oo 28 (.mv (.t 6)), Oo 29 (.mv (.t 1)), Oo 30 (.mv (.t 7)), Oo 31 (.iadr 57 (.t 29) (.t 30)), Oo 32 (.load true 57 (.t 31)), Oo 33 (.call 47 [(.t 28), (.t 32)]), Oo 34 (.slR 46 1 [.int .i64 0, .str [], .int .i64 0, .int .i64 0, .int .i64 0, .int .i64 0, .int .i64 0, .int .i64 0, .str [], .sl 1 [] .nil, .sl 6 [] .nil, .int .u8 0, .int .u8 0, .int .u8 0, .int .u8 0, .int .u8 0, .int .u8 0, .int .u8 0, .int .u8 0, .int .u8 0, .int .u8 0, .int .u8 0, .int .u8 0, .int .u8 0, .int .u8 0, .int .u8 0, .int .u8 0, .int .u8 0, .int .u8 0, .int .u8 0, .int .u8 0, .int .u8 0, .int .u8 0, .int .u8 0, .int .u8 0, .int .u8 0, .int .u8 0, .int .u8 0, .int .u8 0, .int .u8 0, .int .u8 0, .int .u8 0, .int .u8 0, .bool false, .int .i64 0, .int .i64 0] [(0, 46, (.t 33))]), Oo 35 (.app 46 192 (.t 27) (.t 34)), Oo 36 (.fadr 35 (.t 5)), On (.store 1 (.t 36) (.t 35))]
    (.fl 0 (.fl 1 (.fl 2 (.fl 3 (.fl 4 (.fl 5 (.fl 6 (.ch 7 [1] (.fl 8 (.ch 9 [] (.fl 10 (.ch 11 [] .done)))))))))))) [1, 4, 5, 6, 7])
  (.reg [B 37 (.mv (.t 6)), B 38 (.load true 36 (.t 5)), B 39 (.mv (.t 7)), B 40 (.call 48 [(.t 37), (.t 38), (.t 39)])] [1, 4, 5, 6, 7])))
  (.reg [B 24 (.mv (.t 7)), B 25 (.bin .add (.t 24) (.k (.c (.int .i64 1)))), B 7 (.asg (.t 25))] [1, 4, 5, 6, 7]))))))
  (.seq (.reg [B 41 (.load true 36 (.t 5)), Bn (.store 36 (.t 4) (.t 41))] [4])
  .ret)))))
def r16 : List ARes := [.cell 4 true 36]
theorem k16 : bChk Tryz.prog 16 Tryz.f16 2 c16 r16 = true := by kernel_rfl
theorem p16 : Tryz.prog.funcs[16]? = some Tryz.f16 := by kernel_rfl

/-- (*scrivener/views.Views).Apply -/
def c17 : BCode :=
  (.seq (.reg [B 3 (.boxR (.t 1)), B 4 (.asg (.k (.c (.int .i64 0))))] [0, 3])
  (.seq (.seq (.reg [B 10 (.mv (.t 0)), B 11 (.bin .eqnil (.t 10) (.k (.c (.nilp))))] [0, 3, 11])
  (.cond (.t 11) (.seq (.reg [B 4 (.asg (.k (.c (.int .i64 1))))] [4])
  .ret)
  .skip))
  (.seq (.seq (.regd [Oo 12 (.fadr 0 (.t 3)), Oo 13 (.load false 1 (.t 12)), Oo 14 (.mv (.t 0)), Oo 15 (.nilck (.t 14)), Oo 16 (.fadr 5 (.t 15)), Oo 17 (.load false 1 (.t 16)), Oo 18 (.bin .ne (.t 13) (.t 17))]
    (.fl 0 (.fl 1 (.fl 2 (.fl 3 (.fl 4 (.fl 5 (.fl 6 .done))))))) [0, 3, 18])
  (.cond (.t 18) (.seq (.reg [B 4 (.asg (.k (.c (.int .i64 3))))] [4])
  .ret)
  .skip))
  (.seq (.seq (.reg [B 19 (.load true 36 (.t 3)), B 20 (.call 49 [(.t 19)]), B 5 (.asg (.t 20))] [0, 3, 5])
  (.seq (.reg [B 21 (.mv (.t 5)), B 22 (.bin .ne (.t 21) (.k (.c (.int .i64 0))))] [0, 3, 5, 22])
  (.cond (.t 22) (.seq (.reg [B 23 (.mv (.t 5)), B 4 (.asg (.t 23))] [4])
  .ret)
  .skip)))
  (.seq (.reg [B 24 (.mv (.t 0)), B 25 (.call 20 [(.t 24)]), B 6 (.asg (.t 25))] [0, 3, 6])
  (.seq (.seq (.reg [B 26 (.fadr 35 (.t 3)), B 27 (.load false 1 (.t 26)), B 28 (.len (.t 27)), B 29 (.mv (.k (.c (.int .i64 0))))] [0, 3, 6, 27, 28, 29])
  (.block 0 (.loop (.seq (.reg [B 30 (.bin .lt (.t 29) (.t 28))] [0, 3, 6, 27, 28, 29, 30])
  (.seq (.cond (.t 30) .skip
  (.exit 0))
  (.seq (.block 1 (.seq (.reg [B 31 (.mv (.t 29)), B 32 (.iadr 46 (.t 27) (.t 29)), B 33 (.load true 46 (.t 32)), B 8 (.alloc [.int .i64 0, .str [], .int .i64 0, .int .i64 0, .int .i64 0, .int .i64 0, .int .i64 0, .int .i64 0, .str [], .sl 1 [] .nil, .sl 6 [] .nil, .int .u8 0, .int .u8 0, .int .u8 0, .int .u8 0, .int .u8 0, .int .u8 0, .int .u8 0, .int .u8 0, .int .u8 0, .int .u8 0, .int .u8 0, .int .u8 0, .int .u8 0, .int .u8 0, .int .u8 0, .int .u8 0, .int .u8 0, .int .u8 0, .int .u8 0, .int .u8 0, .int .u8 0, .int .u8 0, .int .u8 0, .int .u8 0, .int .u8 0, .int .u8 0, .int .u8 0, .int .u8 0, .int .u8 0, .int .u8 0, .int .u8 0, .int .u8 0, .bool false, .int .i64 0, .int .i64 0]), B 7 (.asg (.t 31)), Bn (.store 46 (.t 8) (.t 33))] [0, 3, 6, 7, 8, 27, 28, 29])
  (.seq (.reg [B 34 (.mv (.t 6)), B 35 (.load true 46 (.t 8)), B 36 (.load true 36 (.t 3)), B 37 (.mv (.t 7)), B 38 (.call 50 [(.t 34), (.t 35), (.t 36), (.t 37)]), B 9 (.asg (.t 38))] [0, 3, 6, 9, 27, 28, 29])
  (.seq (.reg [B 39 (.mv (.t 9)), B 40 (.bin .ne (.t 39) (.k (.c (.int .i64 0))))] [0, 3, 6, 9, 27, 28, 29, 40])
  (.cond (.t 40) (.seq (.reg [B 41 (.mv (.t 9)), B 4 (.asg (.t 41))] [4])
  .ret)
  .skip)))))
  (.reg [B 42 (.bin .add (.t 29) (.k (.c (.int .i64 1)))), B 29 (.mv (.t 42))] [0, 3, 6, 27, 28, 29])))))))
  (.seq (.reg [B 43 (.mv (.t 6)), B 44 (.nilck (.t 43)), B 45 (.fadr 5 (.t 44)), B 46 (.load false 1 (.t 45)), B 47 (.bin .add (.t 46) (.k (.c (.int .i64 1)))), B 48 (.nilck (.t 43)), B 49 (.fadr 5 (.t 48)), Bn (.store 1 (.t 49) (.t 47))] [0, 6])
  (.seq (.reg [B 50 (.mv (.t 0)), B 51 (.mv (.t 6)), B 52 (.nilck (.t 51)), B 53 (.load true 6 (.t 52)), B 54 (.nilck (.t 50)), Bn (.store 6 (.t 54) (.t 53))] [])
  (.seq (.reg [B 4 (.asg (.k (.c (.int .i64 0))))] [4])
  .ret)))))))))
def r17 : List ARes := [.tmp 4]
theorem k17 : bChk Tryz.prog 17 Tryz.f17 2 c17 r17 = true := by kernel_rfl
theorem p17 : Tryz.prog.funcs[17]? = some Tryz.f17 := by kernel_rfl

/-- (*scrivener/scrivenerref15.Views).Apply -/
def c18 : BCode :=
  (.seq (.reg [B 3 (.boxR (.t 1)), B 4 (.asg (.k (.c (.int .i64 0))))] [0, 3])
  (.seq (.seq (.regd [Oo 9 (.fadr 0 (.t 3)), Oo 10 (.load false 1 (.t 9)), Oo 11 (.mv (.t 0)), Oo 12 (.nilck (.t 11)), Oo 13 (.fadr 2 (.t 12)), Oo 14 (.load false 1 (.t 13)), Oo 15 (.bin .ne (.t 10) (.t 14))]
    (.fl 0 (.fl 1 (.fl 2 (.fl 3 (.fl 4 (.fl 5 (.fl 6 .done))))))) [0, 3, 15])
  (.cond (.t 15) (.seq (.reg [B 4 (.asg (.k (.c (.int .i64 3))))] [4])
  .ret)
  .skip))
  (.seq (.reg [B 16 (.load true 36 (.t 3)), B 17 (.call 51 [(.t 16)]), B 5 (.asg (.t 17))] [0, 3, 5])
  (.seq (.seq (.reg [B 18 (.mv (.t 5)), B 19 (.bin .ne (.t 18) (.k (.c (.int .i64 0))))] [0, 3, 5, 19])
  (.cond (.t 19) (.seq (.reg [B 20 (.mv (.t 5)), B 4 (.asg (.t 20))] [4])
  .ret)
  .skip))
  (.seq (.reg [B 21 (.mv (.t 0)), B 22 (.call 46 [(.t 21)]), B 6 (.asg (.t 22))] [0, 3, 6])
  (.seq (.seq (.reg [B 7 (.asg (.k (.c (.int .i64 0))))] [0, 3, 6, 7])
  (.block 0 (.loop (.seq (.seq (.reg [B 23 (.mv (.t 7)), B 24 (.fadr 35 (.t 3)), B 25 (.load false 1 (.t 24)), B 26 (.len (.t 25)), B 27 (.bin .lt (.t 23) (.t 26))] [0, 3, 6, 7, 27])
  (.cond (.t 27) .skip
  (.exit 0)))
  (.seq (.block 1 (.seq (.reg [B 30 (.mv (.t 6)), B 31 (.load true 36 (.t 3)), B 32 (.mv (.t 7)), B 33 (.call 52 [(.t 30), (.t 31), (.t 32)]), B 8 (.asg (.t 33))] [0, 3, 6, 7, 8])
  (.seq (.reg [B 34 (.mv (.t 8)), B 35 (.bin .ne (.t 34) (.k (.c (.int .i64 0))))] [0, 3, 6, 7, 8, 35])
  (.cond (.t 35) (.seq (.reg [B 36 (.mv (.t 8)), B 4 (.asg (.t 36))] [4])
  .ret)
  .skip))))
  (.reg [B 28 (.mv (.t 7)), B 29 (.bin .add (.t 28) (.k (.c (.int .i64 1)))), B 7 (.asg (.t 29))] [0, 3, 6, 7]))))))
  (.seq (.reg [B 37 (.mv (.t 6)), B 38 (.nilck (.t 37)), B 39 (.fadr 2 (.t 38)), B 40 (.load false 1 (.t 39)), B 41 (.bin .add (.t 40) (.k (.c (.int .i64 1)))), B 42 (.nilck (.t 37)), B 43 (.fadr 2 (.t 42)), Bn (.store 1 (.t 43) (.t 41))] [0, 6])
  (.seq (.reg [B 44 (.mv (.t 0)), B 45 (.mv (.t 6)), B 46 (.nilck (.t 45)), B 47 (.load true 4 (.t 46)), B 48 (.nilck (.t 44)), Bn (.store 4 (.t 48) (.t 47))] [])
  (.seq (.reg [B 4 (.asg (.k (.c (.int .i64 0))))] [4])
  .ret)))))))))
def r18 : List ARes := [.tmp 4]
theorem k18 : bChk Tryz.prog 18 Tryz.f18 2 c18 r18 = true := by kernel_rfl
theorem p18 : Tryz.prog.funcs[18]? = some Tryz.f18 := by kernel_rfl

/-- scrivener/scrivenerlaw15.stood -/
def c19 : BCode :=
  (.seq (.reg [B 4 (.asg (.k (.c (.bool false))))] [0, 1])
  (.seq (.reg [B 12 (.mv (.t 1)), B 13 (.nilck (.t 12)), B 14 (.fadr 0 (.t 13)), B 15 (.load false 1 (.t 14)), B 16 (.nilck (.t 15)), B 17 (.fadr 0 (.t 16)), B 18 (.load false 1 (.t 17)), B 19 (.len (.t 18)), B 5 (.asg (.t 19))] [0, 1, 5])
  (.seq (.seq (.regd [Oo 20 (.mv (.t 0)), Oo 21 (.call 28 [(.t 20)]), Oo 22 (.mv (.t 1)), Oo 23 (.nilck (.t 22)), Oo 24 (.fadr 2 (.t 23)), Oo 25 (.load false 1 (.t 24)), Oo 26 (.bin .ne (.t 21) (.t 25)), Oo 27 (.mv (.t 26)), Og 28 (.mv (.t 0)) 27 false, Og 29 (.call 24 [(.t 28)]) 27 false, Og 30 (.bin .eqnil (.t 29) (.k (.c (.nilp)))) 27 false, Oo 31 (.pick (.t 27) (.k (.c (.bool true))) (.t 30)), Oo 32 (.mv (.t 31)), Og 33 (.mv (.t 0)) 32 false, Og 34 (.call 24 [(.t 33)]) 32 false, Og 35 (.call 53 [(.t 34)]) 32 false, Og 36 (.len (.t 35)) 32 false, Og 37 (.mv (.t 5)) 32 false, Og 38 (.bin .ne (.t 36) (.t 37)) 32 false, Oo 39 (.pick (.t 32) (.k (.c (.bool true))) (.t 38))]
    (.fl 0 (.fl 2 (.fl 3 (.fl 4 (.fl 5 (.ch 1 [5] (.fl 6 (.fl 7 (.fl 8 (.ch 9 [] (.fl 10 (.fl 11 (.fl 12 (.fl 13 (.fl 17 (.ch 14 [] (.ch 15 [] (.fl 16 (.fl 18 (.fl 19 .done)))))))))))))))))))) [0, 1, 5, 39])
  (.cond (.t 39) (.seq (.reg [B 4 (.asg (.k (.c (.bool false))))] [4])
  .ret)
  .skip))
  (.seq (.seq (.reg [B 6 (.asg (.k (.c (.int .i64 0))))] [0, 1, 5, 6])
  (.block 0 (.loop (.seq (.seq (.reg [B 40 (.mv (.t 6)), B 41 (.mv (.t 5)), B 42 (.bin .add (.t 41) (.k (.c (.int .i64 1)))), B 43 (.bin .le (.t 40) (.t 42))] [0, 1, 5, 6, 43])
  (.cond (.t 43) .skip
  (.exit 0)))
  (.seq (.block 1 (.seq (.seq (.reg [B 46 (.mv (.t 0)), B 47 (.mv (.t 6)), B 48 (.call 26 [(.t 46), (.t 47)]), B 49 (.mv (.t 1)), B 50 (.mv (.t 6)), B 51 (.call 55 [(.t 49), (.t 50)]), B 52 (.call 54 [(.t 48), (.t 51)]), B 53 (.not (.t 52)), B 54 (.mv (.t 53)), Bg 55 (.mv (.t 0)) 54 false, Bg 56 (.mv (.t 6)) 54 false, Bg 57 (.call 22 [(.t 55), (.t 56)]) 54 false, Bg 58 (.mv (.t 1)) 54 false, Bg 59 (.mv (.t 6)) 54 false, Bg 60 (.call 56 [(.t 58), (.t 59)]) 54 false, Bg 61 (.call 54 [(.t 57), (.t 60)]) 54 false, Bg 62 (.not (.t 61)) 54 false, B 63 (.pick (.t 54) (.k (.c (.bool true))) (.t 62)), B 64 (.mv (.t 63)), Bg 65 (.mv (.t 0)) 64 false, Bg 66 (.mv (.t 6)) 64 false, Bg 67 (.call 27 [(.t 65), (.t 66)]) 64 false, Bg 68 (.mv (.t 1)) 64 false, Bg 69 (.mv (.t 6)) 64 false, Bg 70 (.call 57 [(.t 68), (.t 69)]) 64 false, Bg 71 (.bin .ne (.t 67) (.t 70)) 64 false, B 72 (.pick (.t 64) (.k (.c (.bool true))) (.t 71))] [0, 1, 5, 6, 72])
  (.cond (.t 72) (.seq (.reg [B 4 (.asg (.k (.c (.bool false))))] [4])
  .ret)
  .skip))
  (.seq (.reg [B 7 (.asg (.k (.c (.int .i64 0))))] [0, 1, 5, 6, 7])
  (.block 2 (.loop (.seq (.seq (.reg [B 73 (.mv (.t 7)), B 74 (.mv (.t 1)), B 75 (.mv (.t 6)), B 76 (.call 57 [(.t 74), (.t 75)]), B 77 (.bin .le (.t 73) (.t 76)), B 78 (.mv (.t 77)), Bg 79 (.mv (.t 7)) 78 true, Bg 80 (.bin .lt (.t 79) (.k (.c (.int .i64 20)))) 78 true, B 81 (.pick (.t 78) (.t 80) (.k (.c (.bool false))))] [0, 1, 5, 6, 7, 81])
  (.cond (.t 81) .skip
  (.exit 2)))
  (.seq (.block 3 (.seq (.reg [B 85 (.mv (.t 0)), B 86 (.mv (.t 6)), B 87 (.mv (.t 7)), B 88 (.call 23 [(.t 85), (.t 86), (.t 87)]), B 84 (.mv (.t 88)), B 89 (.extract 0 (.t 84)), B 90 (.extract 1 (.t 84)), B 8 (.alloc [.int .i64 0, .int .i64 0, .int .i64 0, .int .i64 0, .int .i64 0, .int .i64 0, .str [], .sl 1 [] .nil, .sl 6 [] .nil, .bool false, .bool false, .int .i64 0, .int .i64 0, .int .i64 0]), Bn (.store 14 (.t 8) (.t 89)), B 9 (.asg (.t 90))] [0, 1, 5, 6, 7, 8, 9])
  (.seq (.reg [B 92 (.mv (.t 1)), B 93 (.mv (.t 6)), B 94 (.mv (.t 7)), B 95 (.call 58 [(.t 92), (.t 93), (.t 94)]), B 91 (.mv (.t 95)), B 96 (.extract 0 (.t 91)), B 97 (.extract 1 (.t 91)), B 10 (.alloc [.int .i64 0, .int .i64 0, .int .i64 0, .int .i64 0, .int .i64 0, .int .i64 0, .str [], .sl 1 [] .nil, .sl 6 [] .nil, .bool false, .bool false, .int .i64 0, .int .i64 0, .int .i64 0]), Bn (.store 14 (.t 10) (.t 96)), B 11 (.asg (.t 97))] [0, 1, 5, 6, 7, 8, 9, 10, 11])
  (.seq (.reg [B 98 (.load true 14 (.t 8)), B 99 (.load true 14 (.t 10)), B 100 (.call 25 [(.t 98), (.t 99)]), B 101 (.not (.t 100)), B 102 (.mv (.t 101)), Bg 103 (.mv (.t 9)) 102 false, Bg 104 (.mv (.t 11)) 102 false, Bg 105 (.bin .neb (.t 103) (.t 104)) 102 false, B 106 (.pick (.t 102) (.k (.c (.bool true))) (.t 105))] [0, 1, 5, 6, 7, 106])
  (.cond (.t 106) (.seq (.reg [B 4 (.asg (.k (.c (.bool false))))] [4])
  .ret)
  .skip)))))
  (.reg [B 82 (.mv (.t 7)), B 83 (.bin .add (.t 82) (.k (.c (.int .i64 1)))), B 7 (.asg (.t 83))] [0, 1, 5, 6, 7]))))))))
  (.reg [B 44 (.mv (.t 6)), B 45 (.bin .add (.t 44) (.k (.c (.int .i64 1)))), B 6 (.asg (.t 45))] [0, 1, 5, 6]))))))
  (.seq (.reg [B 4 (.asg (.k (.c (.bool true))))] [4])
  .ret)))))
def r19 : List ARes := [.tmp 4]
theorem k19 : bChk Tryz.prog 19 Tryz.f19 2 c19 r19 = true := by kernel_rfl
theorem p19 : Tryz.prog.funcs[19]? = some Tryz.f19 := by kernel_rfl

/-- (*scrivener/views.Views).Copy -/
def c20 : BCode :=
  (.seq (.reg [B 2 (.asg (.k (.c (.nilp))))] [0])
  (.seq (.seq (.reg [B 3 (.mv (.t 0)), B 4 (.bin .eqnil (.t 3) (.k (.c (.nilp))))] [0, 4])
  (.cond (.t 4) (.seq (.reg [B 2 (.asg (.k (.c (.nilp))))] [2])
  .ret)
  .skip))
  (.seq (.regd [Oo 5 (.mv (.t 0)), Oo 6 (.nilck (.t 5)), Oo 7 (.fadr 0 (.t 6)), Oo 8 (.load false 1 (.t 7)), Oo 9 (.call 59 [(.t 8)]), Oo 10 (.mv (.t 0)), Oo 11 (.nilck (.t 10)), Oo 12 (.fadr 1 (.t 11)), Oo 13 (.load false 1 (.t 12)), Oo 14 (.call 60 [(.t 13)]), Oo 15 (.mv (.t 0)), Oo 16 (.nilck (.t 15)), Oo 17 (.fadr 2 (.t 16)), Oo 18 (.load false 1 (.t 17)), Oo 19 (.call 61 [(.t 18)]), Oo 20 (.mv (.t 0)), Oo 21 (.nilck (.t 20)), Oo 22 (.fadr 3 (.t 21)), Oo 23 (.load false 1 (.t 22)), Oo 24 (.call 62 [(.t 23)]), Oo 25 (.mv (.t 0)), Oo 26 (.nilck (.t 25)), Oo 27 (.fadr 4 (.t 26)), Oo 28 (.load false 1 (.t 27)), Oo 29 (.call 63 [(.t 28)]), Oo 30 (.mv (.t 0)), Oo 31 (.nilck (.t 30)), Oo 32 (.fadr 5 (.t 31)), Oo 33 (.load false 1 (.t 32)), Oo 34 (.build [.nilp, .nilmap, .nilmap, .nilmap, .nilmap, .int .i64 0] [(0, 1, (.t 9)), (1, 1, (.t 14)), (2, 1, (.t 19)), (3, 1, (.t 24)), (4, 1, (.t 29)), (5, 1, (.t 33))]), Oo 35 (.box (.t 34)), Oo 2 (.asg (.t 35))]
    (.fl 0 (.fl 1 (.fl 2 (.fl 3 (.fl 5 (.fl 6 (.fl 7 (.fl 8 (.fl 10 (.fl 11 (.fl 12 (.fl 13 (.fl 15 (.fl 16 (.fl 17 (.fl 18 (.fl 20 (.fl 21 (.fl 22 (.fl 23 (.fl 25 (.fl 26 (.fl 27 (.fl 28 (.ch 4 [8, 13, 18, 23, 28] (.ch 9 [13, 18, 23, 28] (.ch 14 [18, 23, 28] (.ch 19 [23, 28] (.ch 24 [28] (.fl 29 (.ch 30 [] (.ch 31 [] .done)))))))))))))))))))))))))))))))) [2])
  .ret)))
def r20 : List ARes := [.tmp 2]
theorem k20 : bChk Tryz.prog 20 Tryz.f20 1 c20 r20 = true := by kernel_rfl
theorem p20 : Tryz.prog.funcs[20]? = some Tryz.f20 := by kernel_rfl

/-- (*scrivener/views.Views).History -/
def c22 : BCode :=
  (.seq (.reg [B 4 (.asg (.k (.c (.sl 14 [] .nil))))] [0, 1])
  (.seq (.seq (.reg [B 9 (.mv (.t 0)), B 10 (.bin .eqnil (.t 9) (.k (.c (.nilp))))] [0, 1, 10])
  (.cond (.t 10) (.seq (.reg [B 4 (.asg (.k (.c (.sl 14 [] .nil))))] [4])
  .ret)
  .skip))
  (.seq (.reg [B 5 (.asg (.k (.c (.sl 14 [] .nil))))] [0, 1, 5])
  (.seq (.seq (.reg [B 6 (.asg (.k (.c (.int .i64 1))))] [0, 1, 5, 6])
  (.block 0 (.loop (.seq (.seq (.reg [B 11 (.mv (.t 6)), B 12 (.mv (.t 0)), B 13 (.nilck (.t 12)), B 14 (.fadr 2 (.t 13)), B 15 (.load false 1 (.t 14)), B 16 (.mv (.t 1)), B 17 (.lookup false (false, [.i .i64]) (.c (.int .i64 0)) (.t 15) (.t 16)), B 18 (.bin .le (.t 11) (.t 17))] [0, 1, 5, 6, 18])
  (.cond (.t 18) .skip
  (.exit 0)))
  (.seq (.block 1 (.seq (.reg [B 21 (.mv (.t 0)), B 22 (.nilck (.t 21)), B 23 (.fadr 1 (.t 22)), B 24 (.load false 1 (.t 23)), B 25 (.mv (.t 1)), B 26 (.mv (.t 6)), B 27 (.build [.int .i64 0, .int .i64 0] [(0, 1, (.t 25)), (1, 1, (.t 26))]), B 28 (.lookup false (true, [.i .i64, .i .i64]) (.c (.sl 14 [] .nil)) (.t 24) (.t 27)), B 29 (.len (.t 28)), B 30 (.mv (.k (.c (.int .i64 0))))] [0, 1, 5, 6, 28, 29, 30])
  (.block 2 (.loop (.seq (.reg [B 31 (.bin .lt (.t 30) (.t 29))] [0, 1, 5, 6, 28, 29, 30, 31])
  (.seq (.cond (.t 31) .skip
  (.exit 2))
  (.seq (.block 3 (.seq (.reg [B 32 (.iadr 14 (.t 28) (.t 30)), B 33 (.load true 14 (.t 32)), B 8 (.alloc [.int .i64 0, .int .i64 0, .int .i64 0, .int .i64 0, .int .i64 0, .int .i64 0, .str [], .sl 1 [] .nil, .sl 6 [] .nil, .bool false, .bool false, .int .i64 0, .int .i64 0, .int .i64 0]), Bn (.store 14 (.t 8) (.t 33))] [0, 1, 5, 6, 8, 28, 29, 30])
  (.reg [B 34 (.mv (.t 5)), B 35 (.load true 14 (.t 8)), B 36 (.call 65 [(.t 35)]), B 37 (.slR 14 1 [.int .i64 0, .int .i64 0, .int .i64 0, .int .i64 0, .int .i64 0, .int .i64 0, .str [], .sl 1 [] .nil, .sl 6 [] .nil, .bool false, .bool false, .int .i64 0, .int .i64 0, .int .i64 0] [(0, 14, (.t 36))]), B 38 (.app 14 144 (.t 34) (.t 37)), B 5 (.asg (.t 38))] [0, 1, 5, 6, 28, 29, 30])))
  (.reg [B 39 (.bin .add (.t 30) (.k (.c (.int .i64 1)))), B 30 (.mv (.t 39))] [0, 1, 5, 6, 28, 29, 30]))))))))
  (.reg [B 19 (.mv (.t 6)), B 20 (.bin .add (.t 19) (.k (.c (.int .i64 1)))), B 6 (.asg (.t 20))] [0, 1, 5, 6]))))))
  (.seq (.reg [B 40 (.mv (.t 5)), B 4 (.asg (.t 40))] [4])
  .ret)))))
def r22 : List ARes := [.tmp 4]
theorem k22 : bChk Tryz.prog 22 Tryz.f22 2 c22 r22 = true := by kernel_rfl
theorem p22 : Tryz.prog.funcs[22]? = some Tryz.f22 := by kernel_rfl

/-- (*scrivener/views.Views).Doc -/
def c23 : BCode :=
  (.seq (.reg [B 6 (.alloc [.int .i64 0, .int .i64 0, .int .i64 0, .int .i64 0, .int .i64 0, .int .i64 0, .str [], .sl 1 [] .nil, .sl 6 [] .nil, .bool false, .bool false, .int .i64 0, .int .i64 0, .int .i64 0]), B 7 (.asg (.k (.c (.bool false))))] [0, 1, 2, 6])
  (.seq (.seq (.reg [B 10 (.mv (.t 0)), B 11 (.bin .eqnil (.t 10) (.k (.c (.nilp))))] [0, 1, 2, 6, 11])
  (.cond (.t 11) (.seq (.reg [B 12 (.build [.int .i64 0, .int .i64 0, .int .i64 0, .int .i64 0, .int .i64 0, .int .i64 0, .str [], .sl 1 [] .nil, .sl 6 [] .nil, .bool false, .bool false, .int .i64 0, .int .i64 0, .int .i64 0] []), Bn (.store 14 (.t 6) (.t 12)), B 7 (.asg (.k (.c (.bool false))))] [6, 7])
  .ret)
  .skip))
  (.seq (.reg [B 14 (.mv (.t 0)), B 15 (.mv (.t 1)), B 16 (.mv (.t 2)), B 17 (.build [.int .i64 0, .int .i64 0] [(0, 1, (.t 15)), (1, 1, (.t 16))]), B 18 (.call 66 [(.t 14), (.t 17)]), B 13 (.mv (.t 18)), B 19 (.extract 0 (.t 13)), B 20 (.extract 1 (.t 13)), B 8 (.alloc [.int .i64 0, .int .i64 0, .int .i64 0, .int .i64 0, .int .i64 0, .int .i64 0, .str [], .sl 1 [] .nil, .sl 6 [] .nil, .bool false, .bool false, .int .i64 0, .int .i64 0, .int .i64 0]), Bn (.store 14 (.t 8) (.t 19)), B 9 (.asg (.t 20))] [6, 8, 9])
  (.seq (.seq (.reg [B 21 (.mv (.t 9)), B 22 (.not (.t 21))] [6, 8, 22])
  (.cond (.t 22) (.seq (.reg [B 23 (.build [.int .i64 0, .int .i64 0, .int .i64 0, .int .i64 0, .int .i64 0, .int .i64 0, .str [], .sl 1 [] .nil, .sl 6 [] .nil, .bool false, .bool false, .int .i64 0, .int .i64 0, .int .i64 0] []), Bn (.store 14 (.t 6) (.t 23)), B 7 (.asg (.k (.c (.bool false))))] [6, 7])
  .ret)
  .skip))
  (.seq (.reg [B 24 (.load true 14 (.t 8)), B 25 (.call 65 [(.t 24)]), Bn (.store 14 (.t 6) (.t 25)), B 7 (.asg (.k (.c (.bool true))))] [6, 7])
  .ret)))))
def r23 : List ARes := [.cell 6 true 14, .tmp 7]
theorem k23 : bChk Tryz.prog 23 Tryz.f23 3 c23 r23 = true := by kernel_rfl
theorem p23 : Tryz.prog.funcs[23]? = some Tryz.f23 := by kernel_rfl

/-- (*scrivener/views.Views).Catalog -/
def c24 : BCode :=
  (.seq (.reg [B 2 (.asg (.k (.c (.nilp))))] [0])
  (.seq (.seq (.reg [B 3 (.mv (.t 0)), B 4 (.bin .eqnil (.t 3) (.k (.c (.nilp))))] [0, 4])
  (.cond (.t 4) (.seq (.reg [B 2 (.asg (.k (.c (.nilp))))] [2])
  .ret)
  .skip))
  (.seq (.reg [B 5 (.mv (.t 0)), B 6 (.nilck (.t 5)), B 7 (.fadr 0 (.t 6)), B 8 (.load false 1 (.t 7)), B 2 (.asg (.t 8))] [2])
  .ret)))
def r24 : List ARes := [.tmp 2]
theorem k24 : bChk Tryz.prog 24 Tryz.f24 1 c24 r24 = true := by kernel_rfl
theorem p24 : Tryz.prog.funcs[24]? = some Tryz.f24 := by kernel_rfl

/-- scrivener/scrivenerlaw15.rows -/
def c25 : BCode :=
  (.seq (.reg [B 2 (.boxR (.t 0)), B 3 (.boxR (.t 1)), B 4 (.asg (.k (.c (.bool false))))] [2, 3])
  (.seq (.reg [B 5 (.fadr 0 (.t 2)), B 6 (.load false 1 (.t 5)), B 7 (.fadr 0 (.t 3)), B 8 (.load false 1 (.t 7)), B 9 (.bin .eq (.t 6) (.t 8)), B 10 (.mv (.t 9)), Bg 11 (.fadr 1 (.t 2)) 10 true, Bg 12 (.load false 1 (.t 11)) 10 true, Bg 13 (.fadr 1 (.t 3)) 10 true, Bg 14 (.load false 1 (.t 13)) 10 true, Bg 15 (.bin .eq (.t 12) (.t 14)) 10 true, B 16 (.pick (.t 10) (.t 15) (.k (.c (.bool false)))), B 17 (.mv (.t 16)), Bg 18 (.fadr 2 (.t 2)) 17 true, Bg 19 (.load false 1 (.t 18)) 17 true, Bg 20 (.fadr 2 (.t 3)) 17 true, Bg 21 (.load false 1 (.t 20)) 17 true, Bg 22 (.bin .eq (.t 19) (.t 21)) 17 true, B 23 (.pick (.t 17) (.t 22) (.k (.c (.bool false)))), B 24 (.mv (.t 23)), Bg 25 (.fadr 9 (.t 2)) 24 true, Bg 26 (.load false 1 (.t 25)) 24 true, Bg 27 (.fadr 9 (.t 3)) 24 true, Bg 28 (.load false 1 (.t 27)) 24 true, Bg 29 (.bin .eqb (.t 26) (.t 28)) 24 true, B 30 (.pick (.t 24) (.t 29) (.k (.c (.bool false)))), B 31 (.mv (.t 30)), Bg 32 (.fadr 10 (.t 2)) 31 true, Bg 33 (.load false 1 (.t 32)) 31 true, Bg 34 (.fadr 10 (.t 3)) 31 true, Bg 35 (.load false 1 (.t 34)) 31 true, Bg 36 (.bin .eqb (.t 33) (.t 35)) 31 true, B 37 (.pick (.t 31) (.t 36) (.k (.c (.bool false)))), B 38 (.mv (.t 37)), Bg 39 (.fadr 11 (.t 2)) 38 true, Bg 40 (.load false 1 (.t 39)) 38 true, Bg 41 (.fadr 11 (.t 3)) 38 true, Bg 42 (.load false 1 (.t 41)) 38 true, Bg 43 (.bin .eq (.t 40) (.t 42)) 38 true, B 44 (.pick (.t 38) (.t 43) (.k (.c (.bool false)))), B 45 (.mv (.t 44)), Bg 46 (.fadr 12 (.t 2)) 45 true, Bg 47 (.load false 1 (.t 46)) 45 true, Bg 48 (.fadr 12 (.t 3)) 45 true, Bg 49 (.load false 1 (.t 48)) 45 true, Bg 50 (.bin .eq (.t 47) (.t 49)) 45 true, B 51 (.pick (.t 45) (.t 50) (.k (.c (.bool false)))), B 52 (.mv (.t 51)), Bg 53 (.fadr 13 (.t 2)) 52 true, Bg 54 (.load false 1 (.t 53)) 52 true, Bg 55 (.fadr 13 (.t 3)) 52 true, Bg 56 (.load false 1 (.t 55)) 52 true, Bg 57 (.bin .eq (.t 54) (.t 56)) 52 true, B 58 (.pick (.t 52) (.t 57) (.k (.c (.bool false)))), B 59 (.mv (.t 58)), Bg 60 (.fadr 3 (.t 2)) 59 true, Bg 61 (.load true 6 (.t 60)) 59 true, Bg 62 (.fadr 3 (.t 3)) 59 true, Bg 63 (.load true 6 (.t 62)) 59 true, Bg 64 (.call 67 [(.t 61), (.t 63)]) 59 true, B 65 (.pick (.t 59) (.t 64) (.k (.c (.bool false)))), B 4 (.asg (.t 65))] [4])
  .ret))
def r25 : List ARes := [.tmp 4]
theorem k25 : bChk Tryz.prog 25 Tryz.f25 2 c25 r25 = true := by kernel_rfl
theorem p25 : Tryz.prog.funcs[25]? = some Tryz.f25 := by kernel_rfl

/-- (*scrivener/views.Views).Docs -/
def c26 : BCode :=
  (.seq (.reg [B 4 (.asg (.k (.c (.sl 14 [] .nil))))] [0, 1])
  (.seq (.seq (.reg [B 9 (.mv (.t 0)), B 10 (.bin .eqnil (.t 9) (.k (.c (.nilp))))] [0, 1, 10])
  (.cond (.t 10) (.seq (.reg [B 4 (.asg (.k (.c (.sl 14 [] .nil))))] [4])
  .ret)
  .skip))
  (.seq (.reg [B 5 (.asg (.k (.c (.sl 14 [] .nil))))] [0, 1, 5])
  (.seq (.seq (.reg [B 6 (.asg (.k (.c (.int .i64 1))))] [0, 1, 5, 6])
  (.block 0 (.loop (.seq (.seq (.reg [B 11 (.mv (.t 6)), B 12 (.mv (.t 0)), B 13 (.nilck (.t 12)), B 14 (.fadr 2 (.t 13)), B 15 (.load false 1 (.t 14)), B 16 (.mv (.t 1)), B 17 (.lookup false (false, [.i .i64]) (.c (.int .i64 0)) (.t 15) (.t 16)), B 18 (.bin .le (.t 11) (.t 17))] [0, 1, 5, 6, 18])
  (.cond (.t 18) .skip
  (.exit 0)))
  (.seq (.block 1 (.seq (.reg [B 22 (.mv (.t 0)), B 23 (.mv (.t 1)), B 24 (.mv (.t 6)), B 25 (.build [.int .i64 0, .int .i64 0] [(0, 1, (.t 23)), (1, 1, (.t 24))]), B 26 (.call 66 [(.t 22), (.t 25)]), B 21 (.mv (.t 26)), B 27 (.extract 0 (.t 21)), B 28 (.extract 1 (.t 21)), B 7 (.alloc [.int .i64 0, .int .i64 0, .int .i64 0, .int .i64 0, .int .i64 0, .int .i64 0, .str [], .sl 1 [] .nil, .sl 6 [] .nil, .bool false, .bool false, .int .i64 0, .int .i64 0, .int .i64 0]), Bn (.store 14 (.t 7) (.t 27)), B 8 (.asg (.t 28))] [0, 1, 5, 6, 7, 8])
  (.seq (.reg [B 29 (.mv (.t 8))] [0, 1, 5, 6, 7, 29])
  (.cond (.t 29) (.reg [B 30 (.mv (.t 5)), B 31 (.load true 14 (.t 7)), B 32 (.call 65 [(.t 31)]), B 33 (.slR 14 1 [.int .i64 0, .int .i64 0, .int .i64 0, .int .i64 0, .int .i64 0, .int .i64 0, .str [], .sl 1 [] .nil, .sl 6 [] .nil, .bool false, .bool false, .int .i64 0, .int .i64 0, .int .i64 0] [(0, 14, (.t 32))]), B 34 (.app 14 144 (.t 30) (.t 33)), B 5 (.asg (.t 34))] [0, 1, 5, 6])
  .skip))))
  (.reg [B 19 (.mv (.t 6)), B 20 (.bin .add (.t 19) (.k (.c (.int .i64 1)))), B 6 (.asg (.t 20))] [0, 1, 5, 6]))))))
  (.seq (.reg [B 35 (.mv (.t 5)), B 4 (.asg (.t 35))] [4])
  .ret)))))
def r26 : List ARes := [.tmp 4]
theorem k26 : bChk Tryz.prog 26 Tryz.f26 2 c26 r26 = true := by kernel_rfl
theorem p26 : Tryz.prog.funcs[26]? = some Tryz.f26 := by kernel_rfl

/-- (*scrivener/views.Views).Next -/
def c27 : BCode :=
  (.seq (.reg [B 4 (.asg (.k (.c (.int .i64 0))))] [0, 1])
  (.seq (.seq (.reg [B 7 (.mv (.t 0)), B 8 (.bin .eqnil (.t 7) (.k (.c (.nilp))))] [0, 1, 8])
  (.cond (.t 8) (.seq (.reg [B 4 (.asg (.k (.c (.int .i64 0))))] [4])
  .ret)
  .skip))
  (.seq (.seq (.reg [B 10 (.mv (.t 0)), B 11 (.nilck (.t 10)), B 12 (.fadr 0 (.t 11)), B 13 (.load false 1 (.t 12)), B 14 (.mv (.t 1)), B 15 (.call 68 [(.t 13), (.t 14)]), B 9 (.mv (.t 15)), B 16 (.extract 0 (.t 9)), B 17 (.extract 1 (.t 9)), B 5 (.alloc [.int .i64 0, .str [], .bool false, .sl 1 [] .nil]), Bn (.store 4 (.t 5) (.t 16)), B 6 (.asg (.t 17))] [0, 1, 6])
  (.seq (.reg [B 18 (.mv (.t 6)), B 19 (.bin .ne (.t 18) (.k (.c (.int .i64 0))))] [0, 1, 19])
  (.cond (.t 19) (.seq (.reg [B 4 (.asg (.k (.c (.int .i64 0))))] [4])
  .ret)
  .skip)))
  (.seq (.reg [B 20 (.mv (.t 0)), B 21 (.nilck (.t 20)), B 22 (.fadr 2 (.t 21)), B 23 (.load false 1 (.t 22)), B 24 (.mv (.t 1)), B 25 (.lookup false (false, [.i .i64]) (.c (.int .i64 0)) (.t 23) (.t 24)), B 26 (.bin .add (.t 25) (.k (.c (.int .i64 1)))), B 4 (.asg (.t 26))] [4])
  .ret))))
def r27 : List ARes := [.tmp 4]
theorem k27 : bChk Tryz.prog 27 Tryz.f27 2 c27 r27 = true := by kernel_rfl
theorem p27 : Tryz.prog.funcs[27]? = some Tryz.f27 := by kernel_rfl

/-- (*scrivener/views.Views).Blocks -/
def c28 : BCode :=
  (.seq (.reg [B 2 (.asg (.k (.c (.int .i64 0))))] [0])
  (.seq (.seq (.reg [B 3 (.mv (.t 0)), B 4 (.bin .eqnil (.t 3) (.k (.c (.nilp))))] [0, 4])
  (.cond (.t 4) (.seq (.reg [B 2 (.asg (.k (.c (.int .i64 0))))] [2])
  .ret)
  .skip))
  (.seq (.reg [B 5 (.mv (.t 0)), B 6 (.nilck (.t 5)), B 7 (.fadr 5 (.t 6)), B 8 (.load false 1 (.t 7)), B 2 (.asg (.t 8))] [2])
  .ret)))
def r28 : List ARes := [.tmp 2]
theorem k28 : bChk Tryz.prog 28 Tryz.f28 1 c28 r28 = true := by kernel_rfl
theorem p28 : Tryz.prog.funcs[28]? = some Tryz.f28 := by kernel_rfl

/-- (*scrivener/scrivenerref14.Catalog).Table -/
def c29 : BCode :=
  (.seq (.reg [B 4 (.alloc [.int .i64 0, .str [], .bool false, .sl 1 [] .nil]), B 5 (.asg (.k (.c (.int .i64 0))))] [0, 1, 4])
  (.seq (.seq (.reg [B 6 (.mv (.t 1)), B 7 (.bin .lt (.t 6) (.k (.c (.int .i64 1)))), B 8 (.mv (.t 7)), Bg 9 (.mv (.t 1)) 8 false, Bg 10 (.mv (.t 0)) 8 false, Bg 11 (.nilck (.t 10)) 8 false, Bg 12 (.fadr 0 (.t 11)) 8 false, Bg 13 (.load false 1 (.t 12)) 8 false, Bg 14 (.len (.t 13)) 8 false, Bg 15 (.bin .gt (.t 9) (.t 14)) 8 false, B 16 (.pick (.t 8) (.k (.c (.bool true))) (.t 15))] [0, 1, 4, 16])
  (.cond (.t 16) (.seq (.reg [B 17 (.build [.int .i64 0, .str [], .bool false, .sl 1 [] .nil] []), Bn (.store 4 (.t 4) (.t 17)), B 5 (.asg (.k (.c (.int .i64 7))))] [4, 5])
  .ret)
  .skip))
  (.seq (.reg [B 18 (.mv (.t 0)), B 19 (.nilck (.t 18)), B 20 (.fadr 0 (.t 19)), B 21 (.load false 1 (.t 20)), B 22 (.mv (.t 1)), B 23 (.bin .sub (.t 22) (.k (.c (.int .i64 1)))), B 24 (.iadr 4 (.t 21) (.t 23)), B 25 (.load true 4 (.t 24)), Bn (.store 4 (.t 4) (.t 25)), B 5 (.asg (.k (.c (.int .i64 0))))] [4, 5])
  .ret)))
def r29 : List ARes := [.cell 4 true 4, .tmp 5]
theorem k29 : bChk Tryz.prog 29 Tryz.f29 2 c29 r29 = true := by kernel_rfl
theorem p29 : Tryz.prog.funcs[29]? = some Tryz.f29 := by kernel_rfl

/-- (*scrivener/scrivenerref14.Catalog).Has -/
def c40 : BCode :=
  (.seq (.reg [B 6 (.asg (.k (.c (.bool false))))] [0, 1, 2])
  (.seq (.reg [B 9 (.mv (.t 0)), B 10 (.mv (.t 1)), B 11 (.call 81 [(.t 9), (.t 10)]), B 7 (.asg (.t 11))] [2, 7])
  (.seq (.seq (.reg [B 8 (.asg (.k (.c (.int .i64 0))))] [2, 7, 8])
  (.block 0 (.loop (.seq (.seq (.reg [B 12 (.mv (.t 7)), B 13 (.bin .nenil (.t 12) (.k (.c (.nilp)))), B 14 (.mv (.t 13)), Bg 15 (.mv (.t 8)) 14 true, Bg 16 (.mv (.t 7)) 14 true, Bg 17 (.nilck (.t 16)) 14 true, Bg 18 (.fadr 3 (.t 17)) 14 true, Bg 19 (.load false 1 (.t 18)) 14 true, Bg 20 (.len (.t 19)) 14 true, Bg 21 (.bin .lt (.t 15) (.t 20)) 14 true, B 22 (.pick (.t 14) (.t 21) (.k (.c (.bool false))))] [2, 7, 8, 22])
  (.cond (.t 22) .skip
  (.exit 0)))
  (.seq (.block 1 (.seq (.reg [B 25 (.mv (.t 7)), B 26 (.nilck (.t 25)), B 27 (.fadr 3 (.t 26)), B 28 (.load false 1 (.t 27)), B 29 (.mv (.t 8)), B 30 (.iadr 1 (.t 28) (.t 29)), B 31 (.load false 1 (.t 30)), B 32 (.mv (.t 2)), B 33 (.bin .seq (.t 31) (.t 32))] [2, 7, 8, 33])
  (.cond (.t 33) (.seq (.reg [B 6 (.asg (.k (.c (.bool true))))] [6])
  .ret)
  .skip)))
  (.reg [B 23 (.mv (.t 8)), B 24 (.bin .add (.t 23) (.k (.c (.int .i64 1)))), B 8 (.asg (.t 24))] [2, 7, 8]))))))
  (.seq (.reg [B 6 (.asg (.k (.c (.bool false))))] [6])
  .ret))))
def r40 : List ARes := [.tmp 6]
theorem k40 : bChk Tryz.prog 40 Tryz.f40 3 c40 r40 = true := by kernel_rfl
theorem p40 : Tryz.prog.funcs[40]? = some Tryz.f40 := by kernel_rfl

/-- scrivener/scrivenerref5.Check -/
def c41 : BCode :=
  (.seq (.reg [B 1 (.boxR (.t 0)), B 2 (.asg (.k (.c (.int .i64 0))))] [1])
  (.seq (.reg [B 3 (.load true 6 (.t 1)), B 4 (.call 82 [(.t 3), (.k (.c (.int .i64 1)))]), B 2 (.asg (.t 4))] [2])
  .ret))
def r41 : List ARes := [.tmp 2]
theorem k41 : bChk Tryz.prog 41 Tryz.f41 1 c41 r41 = true := by kernel_rfl
theorem p41 : Tryz.prog.funcs[41]? = some Tryz.f41 := by kernel_rfl

/-- scrivener/catalog.New -/
def c45 : BCode :=
  (.seq (.reg [B 0 (.asg (.k (.c (.nilp))))] [])
  (.seq (.reg [B 1 (.mkmap), B 2 (.build [.sl 4 [] .nil, .int .u64 0, .nilmap] [(2, 1, (.t 1))]), B 3 (.box (.t 2)), B 0 (.asg (.t 3))] [0])
  .ret))
def r45 : List ARes := [.tmp 0]
theorem k45 : bChk Tryz.prog 45 Tryz.f45 0 c45 r45 = true := by kernel_rfl
theorem p45 : Tryz.prog.funcs[45]? = some Tryz.f45 := by kernel_rfl

/-- (*scrivener/scrivenerref15.Views).Copy -/
def c46 : BCode :=
  (.seq (.reg [B 2 (.asg (.k (.c (.nilp))))] [0])
  (.seq (.reg [B 6 (.mkmap), B 3 (.asg (.t 6))] [0, 3])
  (.seq (.seq (.reg [B 4 (.asg (.k (.c (.int .i64 0))))] [0, 3, 4])
  (.block 0 (.loop (.seq (.seq (.reg [B 7 (.mv (.t 4)), B 8 (.mv (.t 0)), B 9 (.nilck (.t 8)), B 10 (.fadr 1 (.t 9)), B 11 (.load false 1 (.t 10)), B 12 (.len (.t 11)), B 13 (.bin .lt (.t 7) (.t 12))] [0, 3, 4, 13])
  (.cond (.t 13) .skip
  (.exit 0)))
  (.seq (.block 1 (.seq (.regd [Oo 16 (.mv (.t 0)), Oo 17 (.nilck (.t 16)), Oo 18 (.fadr 1 (.t 17)), Oo 19 (.load false 1 (.t 18)), Oo 20 (.mv (.t 4)), Oo 21 (.iadr 14 (.t 19) (.t 20)), Oo 22 (.fadr 11 (.t 21)), Oo 23 (.load false 1 (.t 22)), Oo 24 (.mv (.t 0)), Oo 25 (.nilck (.t 24)), Oo 26 (.fadr 1 (.t 25)), Oo 27 (.load false 1 (.t 26)), Oo 28 (.mv (.t 4)), Oo 29 (.iadr 14 (.t 27) (.t 28)), Oo 30 (.fadr 12 (.t 29)), Oo 31 (.load false 1 (.t 30)), Oo 32 (.build [.int .i64 0, .int .i64 0] [(0, 1, (.t 23)), (1, 1, (.t 31))]), Oo 5 (.alloc [.int .i64 0, .int .i64 0]), On (.store 2 (.t 5) (.t 32))]
    (.fl 0 (.fl 1 (.fl 2 (.fl 3 (.fl 4 (.fl 5 (.fl 6 (.fl 7 (.fl 8 (.fl 9 (.fl 10 (.fl 11 (.fl 12 (.fl 13 (.fl 14 (.fl 15 (.fl 16 (.ch 17 [3, 5, 7, 11, 13, 15] (.ch 18 [] .done))))))))))))))))))) [0, 3, 4, 5])
  (.seq (.regd [Oo 33 (.mv (.t 0)), Oo 34 (.nilck (.t 33)), Oo 35 (.fadr 3 (.t 34)), Oo 36 (.load false 1 (.t 35)), Oo 37 (.load true 2 (.t 5)), Oo 38 (.lookup false (true, [.i .i64, .i .i64]) (.c (.int .i64 0)) (.t 36) (.t 37)), Oo 39 (.bin .ne (.t 38) (.k (.c (.int .i64 0))))]
    (.fl 0 (.fl 1 (.fl 2 (.fl 3 (.fl 4 (.fl 5 (.fl 6 .done))))))) [0, 3, 4, 5, 39])
  (.cond (.t 39) (.reg [B 40 (.mv (.t 3)), B 41 (.load true 2 (.t 5)), Bn (.mupd (true, [.i .i64, .i .i64]) (.t 40) (.t 41) (.k (.c (.int .i64 1))))] [0, 3, 4])
  .skip))))
  (.reg [B 14 (.mv (.t 4)), B 15 (.bin .add (.t 14) (.k (.c (.int .i64 1)))), B 4 (.asg (.t 15))] [0, 3, 4]))))))
  (.seq (.regd [Oo 42 (.mv (.t 0)), Oo 43 (.nilck (.t 42)), Oo 44 (.fadr 0 (.t 43)), Oo 45 (.load false 1 (.t 44)), Oo 46 (.call 86 [(.t 45)]), Oo 47 (.slE 14), Oo 48 (.mv (.t 0)), Oo 49 (.nilck (.t 48)), Oo 50 (.fadr 1 (.t 49)), Oo 51 (.load false 1 (.t 50)), Oo 52 (.app 14 144 (.t 47) (.t 51)), Oo 53 (.mv (.t 0)), Oo 54 (.nilck (.t 53)), Oo 55 (.fadr 2 (.t 54)), Oo 56 (.load false 1 (.t 55)), Oo 57 (.mv (.t 3)), Oo 58 (.build [.nilp, .sl 14 [] .nil, .int .i64 0, .nilmap] [(0, 1, (.t 46)), (1, 1, (.t 52)), (2, 1, (.t 56)), (3, 1, (.t 57))]), Oo 59 (.box (.t 58)), Oo 2 (.asg (.t 59))]
    (.fl 0 (.fl 1 (.fl 2 (.fl 3 (.fl 5 (.fl 6 (.fl 7 (.fl 8 (.fl 9 (.fl 11 (.fl 12 (.fl 13 (.fl 14 (.fl 15 (.ch 4 [9, 14] (.ch 10 [14] (.fl 16 (.ch 17 [] (.ch 18 [] .done))))))))))))))))))) [2])
  .ret))))
def r46 : List ARes := [.tmp 2]
theorem k46 : bChk Tryz.prog 46 Tryz.f46 1 c46 r46 = true := by kernel_rfl
theorem p46 : Tryz.prog.funcs[46]? = some Tryz.f46 := by kernel_rfl

/-- scrivener/scrivenerlaw15.entry -/
def c47 : BCode :=
  (.seq (.reg [B 3 (.boxR (.t 1)), B 4 (.alloc [.int .i64 0, .str [], .int .i64 0, .int .i64 0, .int .i64 0, .int .i64 0, .int .i64 0, .int .i64 0, .str [], .sl 1 [] .nil, .sl 6 [] .nil, .int .u8 0, .int .u8 0, .int .u8 0, .int .u8 0, .int .u8 0, .int .u8 0, .int .u8 0, .int .u8 0, .int .u8 0, .int .u8 0, .int .u8 0, .int .u8 0, .int .u8 0, .int .u8 0, .int .u8 0, .int .u8 0, .int .u8 0, .int .u8 0, .int .u8 0, .int .u8 0, .int .u8 0, .int .u8 0, .int .u8 0, .int .u8 0, .int .u8 0, .int .u8 0, .int .u8 0, .int .u8 0, .int .u8 0, .int .u8 0, .int .u8 0, .int .u8 0, .bool false, .int .i64 0, .int .i64 0])] [0, 3, 4])
  (.seq (.reg [B 11 (.fadr 4 (.t 3)), B 12 (.load true 6 (.t 11)), B 13 (.call 87 [(.t 12)]), B 10 (.mv (.t 13)), B 14 (.extract 0 (.t 10)), B 15 (.extract 1 (.t 10)), B 5 (.alloc [.int .u8 0, .int .u8 0, .int .u8 0, .int .u8 0, .int .u8 0, .int .u8 0, .int .u8 0, .int .u8 0, .int .u8 0, .int .u8 0, .int .u8 0, .int .u8 0, .int .u8 0, .int .u8 0, .int .u8 0, .int .u8 0, .int .u8 0, .int .u8 0, .int .u8 0, .int .u8 0, .int .u8 0, .int .u8 0, .int .u8 0, .int .u8 0, .int .u8 0, .int .u8 0, .int .u8 0, .int .u8 0, .int .u8 0, .int .u8 0, .int .u8 0, .int .u8 0]), Bn (.store 32 (.t 5) (.t 14)), B 6 (.asg (.t 15))] [0, 3, 4, 5])
  (.seq (.seq (.reg [B 16 (.fadr 0 (.t 3)), B 17 (.load false 1 (.t 16))] [0, 3, 4, 5, 17])
  (.block 0 (.seq (.reg [B 19 (.bin .eq (.t 17) (.k (.c (.int .i64 0)))), B 18 (.asg (.t 19))] [0, 3, 4, 5, 17, 18])
  (.cond (.t 18) (.seq (.regd [Oo 20 (.fadr 1 (.t 3)), Oo 21 (.load false 1 (.t 20)), Oo 22 (.mv (.t 0)), Oo 23 (.fadr 1 (.t 3)), Oo 24 (.load false 1 (.t 23)), Oo 25 (.call 57 [(.t 22), (.t 24)]), Oo 26 (.fadr 4 (.t 3)), Oo 27 (.load true 6 (.t 26)), Oo 28 (.load true 32 (.t 5)), Oo 29 (.build [.int .i64 0, .str [], .int .i64 0, .int .i64 0, .int .i64 0, .int .i64 0, .int .i64 0, .int .i64 0, .str [], .sl 1 [] .nil, .sl 6 [] .nil, .int .u8 0, .int .u8 0, .int .u8 0, .int .u8 0, .int .u8 0, .int .u8 0, .int .u8 0, .int .u8 0, .int .u8 0, .int .u8 0, .int .u8 0, .int .u8 0, .int .u8 0, .int .u8 0, .int .u8 0, .int .u8 0, .int .u8 0, .int .u8 0, .int .u8 0, .int .u8 0, .int .u8 0, .int .u8 0, .int .u8 0, .int .u8 0, .int .u8 0, .int .u8 0, .int .u8 0, .int .u8 0, .int .u8 0, .int .u8 0, .int .u8 0, .int .u8 0, .bool false, .int .i64 0, .int .i64 0] [(0, 1, (.k (.c (.int .i64 2)))), (2, 1, (.t 21)), (3, 1, (.t 25)), (5, 6, (.t 27)), (11, 32, (.t 28))]), On (.store 46 (.t 4) (.t 29))]
    (.fl 0 (.fl 1 (.fl 2 (.fl 3 (.fl 4 (.fl 6 (.fl 7 (.fl 8 (.ch 5 [1, 7, 8] (.fl 9 (.ch 10 [] .done))))))))))) [4])
  .ret)
  (.seq (.seq (.reg [B 31 (.bin .eq (.t 17) (.k (.c (.int .i64 1)))), B 30 (.asg (.t 31))] [0, 3, 4, 5, 17, 30])
  (.cond (.t 30) .skip
  (.reg [B 32 (.bin .eq (.t 17) (.k (.c (.int .i64 2)))), B 30 (.asg (.t 32))] [0, 3, 4, 5, 17, 30])))
  (.cond (.t 30) (.seq (.reg [B 7 (.asg (.k (.c (.int .i64 0))))] [0, 3, 4, 5, 7])
  (.seq (.seq (.reg [B 8 (.asg (.k (.c (.int .i64 0))))] [0, 3, 4, 5, 7, 8])
  (.block 1 (.loop (.seq (.seq (.reg [B 33 (.mv (.t 8)), B 34 (.mv (.t 0)), B 35 (.nilck (.t 34)), B 36 (.fadr 1 (.t 35)), B 37 (.load false 1 (.t 36)), B 38 (.len (.t 37)), B 39 (.bin .lt (.t 33) (.t 38))] [0, 3, 4, 5, 7, 8, 39])
  (.cond (.t 39) .skip
  (.exit 1)))
  (.seq (.block 2 (.seq (.regd [Oo 42 (.mv (.t 0)), Oo 43 (.nilck (.t 42)), Oo 44 (.fadr 1 (.t 43)), Oo 45 (.load false 1 (.t 44)), Oo 46 (.mv (.t 8)), Oo 47 (.iadr 14 (.t 45) (.t 46)), Oo 48 (.fadr 0 (.t 47)), Oo 49 (.load false 1 (.t 48)), Oo 50 (.fadr 1 (.t 3)), Oo 51 (.load false 1 (.t 50)), Oo 52 (.bin .eq (.t 49) (.t 51)), Oo 53 (.mv (.t 52)), Og 54 (.mv (.t 0)) 53 true, Og 55 (.nilck (.t 54)) 53 true, Og 56 (.fadr 1 (.t 55)) 53 true, Og 57 (.load false 1 (.t 56)) 53 true, Og 58 (.mv (.t 8)) 53 true, Og 59 (.iadr 14 (.t 57) (.t 58)) 53 true, Og 60 (.fadr 1 (.t 59)) 53 true, Og 61 (.load false 1 (.t 60)) 53 true, Og 62 (.fadr 2 (.t 3)) 53 true, Og 63 (.load false 1 (.t 62)) 53 true, Og 64 (.bin .eq (.t 61) (.t 63)) 53 true, Oo 65 (.pick (.t 53) (.t 64) (.k (.c (.bool false))))]
    (.fl 0 (.fl 1 (.fl 2 (.fl 3 (.fl 4 (.fl 5 (.fl 6 (.fl 7 (.fl 8 (.fl 9 (.fl 10 (.fl 11 (.fl 12 (.fl 13 (.fl 14 (.fl 15 (.fl 16 (.fl 17 (.fl 18 (.fl 19 (.fl 20 (.fl 21 (.fl 22 (.fl 23 .done)))))))))))))))))))))))) [0, 3, 4, 5, 7, 8, 65])
  (.cond (.t 65) (.reg [B 66 (.mv (.t 0)), B 67 (.nilck (.t 66)), B 68 (.fadr 1 (.t 67)), B 69 (.load false 1 (.t 68)), B 70 (.mv (.t 8)), B 71 (.iadr 14 (.t 69) (.t 70)), B 72 (.fadr 2 (.t 71)), B 73 (.load false 1 (.t 72)), B 74 (.bin .add (.t 73) (.k (.c (.int .i64 1)))), B 7 (.asg (.t 74))] [0, 3, 4, 5, 7, 8])
  .skip)))
  (.reg [B 40 (.mv (.t 8)), B 41 (.bin .add (.t 40) (.k (.c (.int .i64 1)))), B 8 (.asg (.t 41))] [0, 3, 4, 5, 7, 8]))))))
  (.seq (.seq (.reg [B 75 (.fadr 0 (.t 3)), B 76 (.load false 1 (.t 75)), B 77 (.bin .eq (.t 76) (.k (.c (.int .i64 2))))] [3, 4, 5, 7, 77])
  (.cond (.t 77) (.seq (.reg [B 78 (.fadr 1 (.t 3)), B 79 (.load false 1 (.t 78)), B 80 (.fadr 2 (.t 3)), B 81 (.load false 1 (.t 80)), B 82 (.mv (.t 7)), B 83 (.build [.int .i64 0, .str [], .int .i64 0, .int .i64 0, .int .i64 0, .int .i64 0, .int .i64 0, .int .i64 0, .str [], .sl 1 [] .nil, .sl 6 [] .nil, .int .u8 0, .int .u8 0, .int .u8 0, .int .u8 0, .int .u8 0, .int .u8 0, .int .u8 0, .int .u8 0, .int .u8 0, .int .u8 0, .int .u8 0, .int .u8 0, .int .u8 0, .int .u8 0, .int .u8 0, .int .u8 0, .int .u8 0, .int .u8 0, .int .u8 0, .int .u8 0, .int .u8 0, .int .u8 0, .int .u8 0, .int .u8 0, .int .u8 0, .int .u8 0, .int .u8 0, .int .u8 0, .int .u8 0, .int .u8 0, .int .u8 0, .int .u8 0, .bool false, .int .i64 0, .int .i64 0] [(0, 1, (.k (.c (.int .i64 3)))), (2, 1, (.t 79)), (3, 1, (.t 81)), (4, 1, (.t 82))]), Bn (.store 46 (.t 4) (.t 83))] [4])
  .ret)
  .skip))
  (.seq (.reg [B 84 (.fadr 1 (.t 3)), B 85 (.load false 1 (.t 84)), B 86 (.fadr 2 (.t 3)), B 87 (.load false 1 (.t 86)), B 88 (.mv (.t 7)), B 89 (.fadr 4 (.t 3)), B 90 (.load true 6 (.t 89)), B 91 (.load true 32 (.t 5)), B 92 (.build [.int .i64 0, .str [], .int .i64 0, .int .i64 0, .int .i64 0, .int .i64 0, .int .i64 0, .int .i64 0, .str [], .sl 1 [] .nil, .sl 6 [] .nil, .int .u8 0, .int .u8 0, .int .u8 0, .int .u8 0, .int .u8 0, .int .u8 0, .int .u8 0, .int .u8 0, .int .u8 0, .int .u8 0, .int .u8 0, .int .u8 0, .int .u8 0, .int .u8 0, .int .u8 0, .int .u8 0, .int .u8 0, .int .u8 0, .int .u8 0, .int .u8 0, .int .u8 0, .int .u8 0, .int .u8 0, .int .u8 0, .int .u8 0, .int .u8 0, .int .u8 0, .int .u8 0, .int .u8 0, .int .u8 0, .int .u8 0, .int .u8 0, .bool false, .int .i64 0, .int .i64 0] [(0, 1, (.k (.c (.int .i64 2)))), (2, 1, (.t 85)), (3, 1, (.t 87)), (4, 1, (.t 88)), (5, 6, (.t 90)), (11, 32, (.t 91))]), Bn (.store 46 (.t 4) (.t 92))] [4])
  .ret))))
  (.seq (.reg [B 94 (.bin .eq (.t 17) (.k (.c (.int .i64 3)))), B 93 (.asg (.t 94))] [0, 3, 4, 17, 93])
  (.cond (.t 93) (.seq (.seq (.reg [B 95 (.mv (.t 0)), B 96 (.nilck (.t 95)), B 97 (.fadr 1 (.t 96)), B 98 (.load false 1 (.t 97)), B 99 (.len (.t 98)), B 100 (.bin .gt (.t 99) (.k (.c (.int .i64 0))))] [0, 3, 4, 100])
  (.cond (.t 100) (.seq (.regd [Oo 101 (.mv (.t 0)), Oo 102 (.nilck (.t 101)), Oo 103 (.fadr 1 (.t 102)), Oo 104 (.load false 1 (.t 103)), Oo 105 (.fadr 3 (.t 3)), Oo 106 (.load false 1 (.t 105)), Oo 107 (.bin .and (.t 106) (.k (.c (.int .i64 65535)))), Oo 108 (.mv (.t 0)), Oo 109 (.nilck (.t 108)), Oo 110 (.fadr 1 (.t 109)), Oo 111 (.load false 1 (.t 110)), Oo 112 (.len (.t 111)), Oo 113 (.bin .rem (.t 107) (.t 112)), Oo 114 (.iadr 14 (.t 104) (.t 113)), Oo 115 (.load true 14 (.t 114)), Oo 9 (.alloc [.int .i64 0, .int .i64 0, .int .i64 0, .int .i64 0, .int .i64 0, .int .i64 0, .str [], .sl 1 [] .nil, .sl 6 [] .nil, .bool false, .bool false, .int .i64 0, .int .i64 0, .int .i64 0]), On (.store 14 (.t 9) (.t 115))]
    (.fl 0 (.fl 1 (.fl 2 (.fl 3 (.fl 4 (.fl 5 (.fl 6 (.fl 7 (.fl 8 (.fl 9 (.fl 10 (.fl 11 (.fl 12 (.fl 13 (.fl 14 (.ch 15 [3, 5, 10, 11, 13, 14] (.ch 16 [] .done))))))))))))))))) [4, 9])
  (.seq (.reg [B 116 (.fadr 11 (.t 9)), B 117 (.load false 1 (.t 116)), B 118 (.fadr 12 (.t 9)), B 119 (.load false 1 (.t 118)), B 120 (.build [.int .i64 0, .int .i64 0] [(0, 1, (.t 117)), (1, 1, (.t 119))]), B 121 (.build [.int .i64 0, .str [], .int .i64 0, .int .i64 0, .int .i64 0, .int .i64 0, .int .i64 0, .int .i64 0, .str [], .sl 1 [] .nil, .sl 6 [] .nil, .int .u8 0, .int .u8 0, .int .u8 0, .int .u8 0, .int .u8 0, .int .u8 0, .int .u8 0, .int .u8 0, .int .u8 0, .int .u8 0, .int .u8 0, .int .u8 0, .int .u8 0, .int .u8 0, .int .u8 0, .int .u8 0, .int .u8 0, .int .u8 0, .int .u8 0, .int .u8 0, .int .u8 0, .int .u8 0, .int .u8 0, .int .u8 0, .int .u8 0, .int .u8 0, .int .u8 0, .int .u8 0, .int .u8 0, .int .u8 0, .int .u8 0, .int .u8 0, .bool false, .int .i64 0, .int .i64 0] [(0, 1, (.k (.c (.int .i64 4)))), (44, 2, (.t 120))]), Bn (.store 46 (.t 4) (.t 121))] [4])
  .ret))
  .skip))
  (.seq (.reg [B 122 (.build [.int .i64 0, .str [], .int .i64 0, .int .i64 0, .int .i64 0, .int .i64 0, .int .i64 0, .int .i64 0, .str [], .sl 1 [] .nil, .sl 6 [] .nil, .int .u8 0, .int .u8 0, .int .u8 0, .int .u8 0, .int .u8 0, .int .u8 0, .int .u8 0, .int .u8 0, .int .u8 0, .int .u8 0, .int .u8 0, .int .u8 0, .int .u8 0, .int .u8 0, .int .u8 0, .int .u8 0, .int .u8 0, .int .u8 0, .int .u8 0, .int .u8 0, .int .u8 0, .int .u8 0, .int .u8 0, .int .u8 0, .int .u8 0, .int .u8 0, .int .u8 0, .int .u8 0, .int .u8 0, .int .u8 0, .int .u8 0, .int .u8 0, .bool false, .int .i64 0, .int .i64 0] [(0, 1, (.k (.c (.int .i64 4))))]), Bn (.store 46 (.t 4) (.t 122))] [4])
  .ret))
  (.seq (.reg [B 124 (.bin .eq (.t 17) (.k (.c (.int .i64 4)))), B 123 (.asg (.t 124))] [0, 3, 4, 17, 123])
  (.cond (.t 123) (.seq (.regd [Oo 125 (.mv (.t 0)), Oo 126 (.nilck (.t 125)), Oo 127 (.fadr 0 (.t 126)), Oo 128 (.load false 1 (.t 127)), Oo 129 (.nilck (.t 128)), Oo 130 (.fadr 0 (.t 129)), Oo 131 (.load false 1 (.t 130)), Oo 132 (.len (.t 131)), Oo 133 (.bin .add (.t 132) (.k (.c (.int .i64 1)))), Oo 134 (.fadr 10 (.t 3)), Oo 135 (.load false 1 (.t 134)), Oo 136 (.build [.int .i64 0, .str [], .int .i64 0, .int .i64 0, .int .i64 0, .int .i64 0, .int .i64 0, .int .i64 0, .str [], .sl 1 [] .nil, .sl 6 [] .nil, .int .u8 0, .int .u8 0, .int .u8 0, .int .u8 0, .int .u8 0, .int .u8 0, .int .u8 0, .int .u8 0, .int .u8 0, .int .u8 0, .int .u8 0, .int .u8 0, .int .u8 0, .int .u8 0, .int .u8 0, .int .u8 0, .int .u8 0, .int .u8 0, .int .u8 0, .int .u8 0, .int .u8 0, .int .u8 0, .int .u8 0, .int .u8 0, .int .u8 0, .int .u8 0, .int .u8 0, .int .u8 0, .int .u8 0, .int .u8 0, .int .u8 0, .int .u8 0, .bool false, .int .i64 0, .int .i64 0] [(0, 1, (.k (.c (.int .i64 5)))), (2, 1, (.t 133)), (1, 1, (.t 135))]), On (.store 46 (.t 4) (.t 136))]
    (.fl 0 (.fl 1 (.fl 2 (.fl 3 (.fl 4 (.fl 5 (.fl 6 (.fl 7 (.fl 8 (.fl 9 (.fl 10 (.fl 11 (.ch 12 [] .done))))))))))))) [4])
  .ret)
  (.seq (.reg [B 138 (.bin .eq (.t 17) (.k (.c (.int .i64 5)))), B 137 (.asg (.t 138))] [3, 4, 17, 137])
  (.cond (.t 137) (.seq (.reg [B 139 (.fadr 1 (.t 3)), B 140 (.load false 1 (.t 139)), B 141 (.build [.int .i64 0, .str [], .int .i64 0, .int .i64 0, .int .i64 0, .int .i64 0, .int .i64 0, .int .i64 0, .str [], .sl 1 [] .nil, .sl 6 [] .nil, .int .u8 0, .int .u8 0, .int .u8 0, .int .u8 0, .int .u8 0, .int .u8 0, .int .u8 0, .int .u8 0, .int .u8 0, .int .u8 0, .int .u8 0, .int .u8 0, .int .u8 0, .int .u8 0, .int .u8 0, .int .u8 0, .int .u8 0, .int .u8 0, .int .u8 0, .int .u8 0, .int .u8 0, .int .u8 0, .int .u8 0, .int .u8 0, .int .u8 0, .int .u8 0, .int .u8 0, .int .u8 0, .int .u8 0, .int .u8 0, .int .u8 0, .int .u8 0, .bool false, .int .i64 0, .int .i64 0] [(0, 1, (.k (.c (.int .i64 6)))), (2, 1, (.t 140))]), Bn (.store 46 (.t 4) (.t 141))] [4])
  .ret)
  (.seq (.reg [B 143 (.bin .eq (.t 17) (.k (.c (.int .i64 6)))), B 142 (.asg (.t 143))] [3, 4, 142])
  (.cond (.t 142) (.seq (.reg [B 144 (.fadr 1 (.t 3)), B 145 (.load false 1 (.t 144)), B 146 (.fadr 10 (.t 3)), B 147 (.load false 1 (.t 146)), B 148 (.build [.int .i64 0, .str [], .int .i64 0, .int .i64 0, .int .i64 0, .int .i64 0, .int .i64 0, .int .i64 0, .str [], .sl 1 [] .nil, .sl 6 [] .nil, .int .u8 0, .int .u8 0, .int .u8 0, .int .u8 0, .int .u8 0, .int .u8 0, .int .u8 0, .int .u8 0, .int .u8 0, .int .u8 0, .int .u8 0, .int .u8 0, .int .u8 0, .int .u8 0, .int .u8 0, .int .u8 0, .int .u8 0, .int .u8 0, .int .u8 0, .int .u8 0, .int .u8 0, .int .u8 0, .int .u8 0, .int .u8 0, .int .u8 0, .int .u8 0, .int .u8 0, .int .u8 0, .int .u8 0, .int .u8 0, .int .u8 0, .int .u8 0, .bool false, .int .i64 0, .int .i64 0] [(0, 1, (.k (.c (.int .i64 7)))), (2, 1, (.t 145)), (1, 1, (.t 147))]), Bn (.store 46 (.t 4) (.t 148))] [4])
  .ret)
  .skip))))))))))))))
  (.seq (.reg [B 149 (.fadr 11 (.t 3)), B 150 (.load true 46 (.t 149)), Bn (.store 46 (.t 4) (.t 150))] [4])
  .ret))))
def r47 : List ARes := [.cell 4 true 46]
theorem k47 : bChk Tryz.prog 47 Tryz.f47 2 c47 r47 = true := by kernel_rfl
theorem p47 : Tryz.prog.funcs[47]? = some Tryz.f47 := by kernel_rfl

/-- (*scrivener/scrivenerref15.Views).Entry -/
def c48 : BCode :=
  (.seq (.reg [B 4 (.boxR (.t 1)), B 6 (.asg (.k (.c (.int .i64 0))))] [0, 2, 4])
  (.seq (.reg [B 7 (.mv (.t 0)), B 8 (.load true 36 (.t 4)), B 9 (.mv (.t 2)), B 10 (.call 52 [(.t 7), (.t 8), (.t 9)]), B 6 (.asg (.t 10))] [6])
  .ret))
def r48 : List ARes := [.tmp 6]
theorem k48 : bChk Tryz.prog 48 Tryz.f48 3 c48 r48 = true := by kernel_rfl
theorem p48 : Tryz.prog.funcs[48]? = some Tryz.f48 := by kernel_rfl

/-- scrivener/block.Check -/
def c49 : BCode :=
  (.seq (.reg [B 1 (.boxR (.t 0)), B 2 (.asg (.k (.c (.int .i64 0))))] [1])
  (.seq (.seq (.reg [B 6 (.fadr 0 (.t 1)), B 7 (.load false 1 (.t 6)), B 8 (.call 88 [(.t 7), (.k (.c (.int .i64 0))), (.k (.c (.int .i64 2147483648)))]), B 9 (.not (.t 8)), B 10 (.mv (.t 9)), Bg 11 (.fadr 1 (.t 1)) 10 false, Bg 12 (.load false 1 (.t 11)) 10 false, Bg 13 (.call 88 [(.t 12), (.k (.c (.int .i64 0))), (.k (.c (.int .i64 9007199254740992)))]) 10 false, Bg 14 (.not (.t 13)) 10 false, B 15 (.pick (.t 10) (.k (.c (.bool true))) (.t 14)), B 16 (.mv (.t 15)), Bg 17 (.fadr 2 (.t 1)) 16 false, Bg 18 (.load false 1 (.t 17)) 16 false, Bg 19 (.call 88 [(.t 18), (.k (.c (.int .i64 0))), (.k (.c (.int .i64 9007199254740992)))]) 16 false, Bg 20 (.not (.t 19)) 16 false, B 21 (.pick (.t 16) (.k (.c (.bool true))) (.t 20)), B 22 (.mv (.t 21)), Bg 23 (.fadr 35 (.t 1)) 22 false, Bg 24 (.load false 1 (.t 23)) 22 false, Bg 25 (.len (.t 24)) 22 false, Bg 26 (.call 88 [(.t 25), (.k (.c (.int .i64 1))), (.k (.c (.int .i64 200)))]) 22 false, Bg 27 (.not (.t 26)) 22 false, B 28 (.pick (.t 22) (.k (.c (.bool true))) (.t 27))] [1, 28])
  (.cond (.t 28) (.seq (.reg [B 2 (.asg (.k (.c (.int .i64 1))))] [2])
  .ret)
  .skip))
  (.seq (.seq (.reg [B 29 (.fadr 35 (.t 1)), B 30 (.load false 1 (.t 29)), B 31 (.len (.t 30)), B 32 (.mv (.k (.c (.int .i64 0))))] [1, 30, 31, 32])
  (.block 0 (.loop (.seq (.reg [B 33 (.bin .lt (.t 32) (.t 31))] [1, 30, 31, 32, 33])
  (.seq (.cond (.t 33) .skip
  (.exit 0))
  (.seq (.block 1 (.seq (.reg [B 34 (.iadr 46 (.t 30) (.t 32)), B 35 (.load true 46 (.t 34)), B 4 (.alloc [.int .i64 0, .str [], .int .i64 0, .int .i64 0, .int .i64 0, .int .i64 0, .int .i64 0, .int .i64 0, .str [], .sl 1 [] .nil, .sl 6 [] .nil, .int .u8 0, .int .u8 0, .int .u8 0, .int .u8 0, .int .u8 0, .int .u8 0, .int .u8 0, .int .u8 0, .int .u8 0, .int .u8 0, .int .u8 0, .int .u8 0, .int .u8 0, .int .u8 0, .int .u8 0, .int .u8 0, .int .u8 0, .int .u8 0, .int .u8 0, .int .u8 0, .int .u8 0, .int .u8 0, .int .u8 0, .int .u8 0, .int .u8 0, .int .u8 0, .int .u8 0, .int .u8 0, .int .u8 0, .int .u8 0, .int .u8 0, .int .u8 0, .bool false, .int .i64 0, .int .i64 0]), Bn (.store 46 (.t 4) (.t 35))] [1, 4, 30, 31, 32])
  (.seq (.reg [B 36 (.load true 46 (.t 4)), B 37 (.call 89 [(.t 36)]), B 5 (.asg (.t 37))] [1, 5, 30, 31, 32])
  (.seq (.reg [B 38 (.mv (.t 5)), B 39 (.bin .ne (.t 38) (.k (.c (.int .i64 0))))] [1, 5, 30, 31, 32, 39])
  (.cond (.t 39) (.seq (.reg [B 40 (.mv (.t 5)), B 2 (.asg (.t 40))] [2])
  .ret)
  .skip)))))
  (.reg [B 41 (.bin .add (.t 32) (.k (.c (.int .i64 1)))), B 32 (.mv (.t 41))] [1, 30, 31, 32])))))))
  (.seq (.seq (.reg [B 42 (.load true 36 (.t 1)), B 43 (.call 90 [(.t 42), (.k (.c (.bool true)))]), B 44 (.len (.t 43)), B 45 (.bin .gt (.t 44) (.k (.c (.int .i64 262144))))] [45])
  (.cond (.t 45) (.seq (.reg [B 2 (.asg (.k (.c (.int .i64 5))))] [2])
  .ret)
  .skip))
  (.seq (.reg [B 2 (.asg (.k (.c (.int .i64 0))))] [2])
  .ret)))))
def r49 : List ARes := [.tmp 2]
theorem k49 : bChk Tryz.prog 49 Tryz.f49 1 c49 r49 = true := by kernel_rfl
theorem p49 : Tryz.prog.funcs[49]? = some Tryz.f49 := by kernel_rfl

/-- (*scrivener/views.Views).entry -/
def c50 : BCode :=
  (.seq (.reg [B 5 (.box (.t 1)), B 6 (.boxR (.t 2)), B 8 (.asg (.k (.c (.int .i64 0))))] [0, 3, 5, 6])
  (.seq (.reg [B 20 (.fadr 0 (.t 6)), B 21 (.load false 1 (.t 20)), B 22 (.mv (.t 3)), B 23 (.build [.int .i64 0, .int .i64 0] [(0, 1, (.t 21)), (1, 1, (.t 22))]), B 9 (.alloc [.int .i64 0, .int .i64 0]), Bn (.store 2 (.t 9) (.t 23))] [0, 3, 5, 6, 9])
  (.seq (.reg [B 24 (.fadr 2 (.t 5)), B 25 (.load false 1 (.t 24)), B 26 (.fadr 3 (.t 5)), B 27 (.load false 1 (.t 26)), B 28 (.build [.int .i64 0, .int .i64 0] [(0, 1, (.t 25)), (1, 1, (.t 27))]), B 10 (.alloc [.int .i64 0, .int .i64 0]), Bn (.store 2 (.t 10) (.t 28))] [0, 3, 5, 6, 9, 10])
  (.seq (.seq (.reg [B 29 (.fadr 0 (.t 5)), B 30 (.load false 1 (.t 29))] [0, 3, 5, 6, 9, 10, 30])
  (.block 0 (.seq (.seq (.reg [B 38 (.bin .eq (.t 30) (.k (.c (.int .i64 2)))), B 37 (.asg (.t 38))] [0, 3, 5, 6, 9, 10, 30, 37])
  (.cond (.t 37) .skip
  (.reg [B 39 (.bin .eq (.t 30) (.k (.c (.int .i64 3)))), B 37 (.asg (.t 39))] [0, 3, 5, 6, 9, 10, 30, 37])))
  (.cond (.t 37) (.seq (.seq (.regd [Oo 41 (.mv (.t 0)), Oo 42 (.nilck (.t 41)), Oo 43 (.fadr 0 (.t 42)), Oo 44 (.load false 1 (.t 43)), Oo 45 (.fadr 2 (.t 5)), Oo 46 (.load false 1 (.t 45)), Oo 47 (.call 68 [(.t 44), (.t 46)]), Oo 40 (.mv (.t 47)), Oo 48 (.extract 0 (.t 40)), Oo 49 (.extract 1 (.t 40)), Oo 11 (.alloc [.int .i64 0, .str [], .bool false, .sl 1 [] .nil]), On (.store 4 (.t 11) (.t 48)), Oo 12 (.asg (.t 49))]
    (.fl 0 (.fl 1 (.fl 2 (.fl 3 (.fl 4 (.fl 5 (.alt 6 [] (.fl 7 (.fl 8 (.fl 9 (.ch 10 [3, 5] (.ch 11 [] (.ch 12 [] .done)))))) 10 [3, 5] (.ch 6 [] (.fl 7 (.fl 8 (.fl 9 (.ch 11 [] (.ch 12 [] .done))))))))))))) [0, 3, 5, 6, 9, 10, 11, 12])
  (.seq (.reg [B 50 (.mv (.t 12)), B 51 (.bin .ne (.t 50) (.k (.c (.int .i64 0)))), B 52 (.mv (.t 51)), Bg 53 (.fadr 2 (.t 11)) 52 false, Bg 54 (.load false 1 (.t 53)) 52 false, B 55 (.pick (.t 52) (.k (.c (.bool true))) (.t 54))] [0, 3, 5, 6, 9, 10, 55])
  (.cond (.t 55) (.seq (.reg [B 8 (.asg (.k (.c (.int .i64 3))))] [8])
  .ret)
  .skip)))
  (.seq (.regd [Oo 56 (.mv (.t 0)), Oo 57 (.nilck (.t 56)), Oo 58 (.fadr 1 (.t 57)), Oo 59 (.load false 1 (.t 58)), Oo 60 (.load true 2 (.t 10)), Oo 61 (.lookup false (true, [.i .i64, .i .i64]) (.c (.sl 14 [] .nil)) (.t 59) (.t 60)), Oo 13 (.asg (.t 61))]
    (.fl 0 (.fl 1 (.fl 2 (.fl 3 (.fl 4 (.fl 5 (.ch 6 [] .done))))))) [0, 3, 5, 6, 9, 10, 13])
  (.seq (.reg [B 62 (.fadr 0 (.t 5)), B 63 (.load false 1 (.t 62)), B 64 (.bin .eq (.t 63) (.k (.c (.int .i64 2)))), B 65 (.mv (.t 64)), Bg 66 (.fadr 4 (.t 5)) 65 true, Bg 67 (.load false 1 (.t 66)) 65 true, Bg 68 (.bin .eq (.t 67) (.k (.c (.int .i64 0)))) 65 true, B 69 (.pick (.t 65) (.t 68) (.k (.c (.bool false)))), B 14 (.asg (.t 69))] [0, 3, 5, 6, 9, 10, 13, 14])
  (.seq (.seq (.regd [Oo 70 (.mv (.t 14)), Oo 71 (.mv (.t 70)), Og 72 (.fadr 3 (.t 5)) 71 true, Og 73 (.load false 1 (.t 72)) 71 true, Og 74 (.mv (.t 0)) 71 true, Og 75 (.fadr 2 (.t 5)) 71 true, Og 76 (.load false 1 (.t 75)) 71 true, Og 77 (.call 27 [(.t 74), (.t 76)]) 71 true, Og 78 (.bin .ne (.t 73) (.t 77)) 71 true, Oo 79 (.pick (.t 71) (.t 78) (.k (.c (.bool false)))), Oo 80 (.mv (.t 79)), Og 81 (.mv (.t 14)) 80 false, Og 82 (.not (.t 81)) 80 false, Og 83 (.mv (.t 82)) 80 false, Og 84 (.mv (.t 13)) 83 true, Og 85 (.len (.t 84)) 83 true, Og 86 (.bin .eq (.t 85) (.k (.c (.int .i64 0)))) 83 true, Og 87 (.mv (.t 86)) 83 true, Og 88 (.mv (.t 13)) 87 false, Og 89 (.mv (.t 13)) 87 false, Og 90 (.len (.t 89)) 87 false, Og 91 (.bin .sub (.t 90) (.k (.c (.int .i64 1)))) 87 false, Og 92 (.iadr 14 (.t 88) (.t 91)) 87 false, Og 93 (.fadr 10 (.t 92)) 87 false, Og 94 (.load false 1 (.t 93)) 87 false, Og 95 (.pick (.t 87) (.k (.c (.bool true))) (.t 94)) 83 true, Og 96 (.mv (.t 95)) 83 true, Og 97 (.fadr 4 (.t 5)) 96 false, Og 98 (.load false 1 (.t 97)) 96 false, Og 99 (.mv (.t 13)) 96 false, Og 100 (.len (.t 99)) 96 false, Og 101 (.bin .ne (.t 98) (.t 100)) 96 false, Og 102 (.pick (.t 96) (.k (.c (.bool true))) (.t 101)) 83 true, Og 103 (.pick (.t 83) (.t 102) (.k (.c (.bool false)))) 80 false, Oo 104 (.pick (.t 80) (.k (.c (.bool true))) (.t 103))]
    (.fl 0 (.fl 1 (.fl 2 (.fl 3 (.fl 4 (.fl 5 (.fl 6 (.ch 7 [3] (.fl 8 (.fl 9 (.fl 10 (.fl 11 (.fl 12 (.fl 13 (.fl 14 (.fl 15 (.fl 16 (.fl 17 (.fl 18 (.fl 19 (.fl 20 (.fl 21 (.fl 22 (.fl 23 (.fl 24 (.fl 25 (.fl 26 (.fl 27 (.fl 28 (.fl 29 (.fl 30 (.fl 31 (.fl 32 (.fl 33 (.fl 34 .done))))))))))))))))))))))))))))))))))) [0, 3, 5, 6, 9, 10, 13, 14, 104])
  (.cond (.t 104) (.seq (.reg [B 8 (.asg (.k (.c (.int .i64 3))))] [8])
  .ret)
  .skip))
  (.seq (.seq (.reg [B 105 (.mv (.t 14))] [0, 3, 5, 6, 9, 10, 13, 105])
  (.cond (.t 105) (.regd [Oo 106 (.mv (.t 0)), Oo 107 (.nilck (.t 106)), Oo 108 (.fadr 2 (.t 107)), Oo 109 (.load false 1 (.t 108)), Oo 110 (.fadr 2 (.t 5)), Oo 111 (.load false 1 (.t 110)), Oo 112 (.lookup false (false, [.i .i64]) (.c (.int .i64 0)) (.t 109) (.t 111)), Oo 113 (.bin .add (.t 112) (.k (.c (.int .i64 1)))), On (.mupd (false, [.i .i64]) (.t 109) (.t 111) (.t 113))]
    (.fl 0 (.fl 1 (.fl 2 (.fl 3 (.fl 4 (.fl 5 (.fl 6 (.fl 7 (.ch 8 [] .done))))))))) [0, 3, 5, 6, 9, 10, 13])
  .skip))
  (.seq (.regd [Oo 114 (.fadr 2 (.t 5)), Oo 115 (.load false 1 (.t 114)), Oo 116 (.fadr 3 (.t 5)), Oo 117 (.load false 1 (.t 116)), Oo 118 (.fadr 4 (.t 5)), Oo 119 (.load false 1 (.t 118)), Oo 120 (.fadr 5 (.t 5)), Oo 121 (.load true 6 (.t 120)), Oo 122 (.call 91 [(.t 121)]), Oo 123 (.fadr 43 (.t 5)), Oo 124 (.load false 1 (.t 123)), Oo 125 (.fadr 0 (.t 5)), Oo 126 (.load false 1 (.t 125)), Oo 127 (.bin .eq (.t 126) (.k (.c (.int .i64 3)))), Oo 128 (.fadr 0 (.t 6)), Oo 129 (.load false 1 (.t 128)), Oo 130 (.mv (.t 3)), Oo 131 (.fadr 1 (.t 6)), Oo 132 (.load false 1 (.t 131)), Oo 133 (.build [.int .i64 0, .int .i64 0, .int .i64 0, .int .i64 0, .int .i64 0, .int .i64 0, .str [], .sl 1 [] .nil, .sl 6 [] .nil, .bool false, .bool false, .int .i64 0, .int .i64 0, .int .i64 0] [(0, 1, (.t 115)), (1, 1, (.t 117)), (2, 1, (.t 119)), (3, 6, (.t 122)), (9, 1, (.t 124)), (10, 1, (.t 127)), (11, 1, (.t 129)), (12, 1, (.t 130)), (13, 1, (.t 132))]), Oo 15 (.alloc [.int .i64 0, .int .i64 0, .int .i64 0, .int .i64 0, .int .i64 0, .int .i64 0, .str [], .sl 1 [] .nil, .sl 6 [] .nil, .bool false, .bool false, .int .i64 0, .int .i64 0, .int .i64 0]), On (.store 14 (.t 15) (.t 133))]
    (.fl 0 (.fl 1 (.fl 2 (.fl 3 (.fl 4 (.fl 5 (.fl 6 (.fl 7 (.fl 9 (.fl 10 (.fl 11 (.fl 12 (.fl 13 (.fl 14 (.fl 15 (.fl 16 (.fl 17 (.fl 18 (.alt 8 [1, 3, 5, 10, 12, 15, 18] (.fl 19 (.ch 20 [1, 3, 5, 7, 10, 12, 15, 18] (.ch 21 [] .done))) 20 [1, 3, 5, 7, 10, 12, 15, 18] (.ch 8 [1, 3, 5, 10, 12, 15, 18] (.fl 19 (.ch 21 [] .done)))))))))))))))))))))) [0, 5, 9, 10, 13, 15])
  (.seq (.regd [Oo 134 (.mv (.t 0)), Oo 135 (.nilck (.t 134)), Oo 136 (.fadr 1 (.t 135)), Oo 137 (.load false 1 (.t 136)), Oo 138 (.load true 2 (.t 10)), Oo 139 (.mv (.t 13)), Oo 140 (.mv (.t 13)), Oo 141 (.len (.t 140)), Oo 142 (.mv (.t 13)), Oo 143 (.len (.t 142)), Oo 144 (.slice 14 (.t 139) none (some (.t 141)) (some (.t 143))), Oo 145 (.load true 14 (.t 15)), Oo 146 (.slR 14 1 [.int .i64 0, .int .i64 0, .int .i64 0, .int .i64 0, .int .i64 0, .int .i64 0, .str [], .sl 1 [] .nil, .sl 6 [] .nil, .bool false, .bool false, .int .i64 0, .int .i64 0, .int .i64 0] [(0, 14, (.t 145))]), Oo 147 (.app 14 144 (.t 144) (.t 146)), On (.mupd (true, [.i .i64, .i .i64]) (.t 137) (.t 138) (.t 147))]
    (.fl 0 (.fl 1 (.fl 2 (.fl 3 (.fl 4 (.fl 5 (.fl 6 (.fl 7 (.fl 8 (.fl 9 (.fl 10 (.fl 11 (.fl 12 (.ch 13 [3, 4] (.ch 14 [] .done))))))))))))))) [0, 5, 9, 10])
  (.seq (.reg [B 148 (.fadr 0 (.t 5)), B 149 (.load false 1 (.t 148)), B 150 (.bin .eq (.t 149) (.k (.c (.int .i64 2))))] [0, 9, 10, 150])
  (.cond (.t 150) (.regd [Oo 151 (.mv (.t 0)), Oo 152 (.nilck (.t 151)), Oo 153 (.fadr 3 (.t 152)), Oo 154 (.load false 1 (.t 153)), Oo 155 (.load true 2 (.t 9)), Oo 156 (.load true 2 (.t 10)), On (.mupd (true, [.i .i64, .i .i64]) (.t 154) (.t 155) (.t 156))]
    (.fl 0 (.fl 1 (.fl 2 (.fl 3 (.fl 4 (.fl 5 (.ch 6 [] .done))))))) [])
  .skip)))))))))
  (.seq (.reg [B 158 (.bin .eq (.t 30) (.k (.c (.int .i64 4)))), B 157 (.asg (.t 158))] [0, 5, 157])
  (.cond (.t 157) (.seq (.regd [Oo 160 (.mv (.t 0)), Oo 161 (.nilck (.t 160)), Oo 162 (.fadr 3 (.t 161)), Oo 163 (.load false 1 (.t 162)), Oo 164 (.fadr 44 (.t 5)), Oo 165 (.load true 2 (.t 164)), Oo 166 (.lookup true (true, [.i .i64, .i .i64]) (.agg [.int .i64 0, .int .i64 0]) (.t 163) (.t 165)), Oo 159 (.mv (.t 166)), Oo 167 (.extract 0 (.t 159)), Oo 168 (.extract 1 (.t 159)), Oo 16 (.alloc [.int .i64 0, .int .i64 0]), On (.store 2 (.t 16) (.t 167)), Oo 17 (.asg (.t 168))]
    (.fl 0 (.fl 1 (.fl 2 (.fl 3 (.fl 4 (.fl 5 (.fl 6 (.fl 7 (.fl 8 (.fl 9 (.ch 10 [3, 5, 6] (.ch 11 [] (.ch 12 [] .done))))))))))))) [0, 5, 16, 17])
  (.seq (.seq (.regd [Oo 169 (.mv (.t 17)), Oo 170 (.not (.t 169)), Oo 171 (.mv (.t 170)), Og 172 (.mv (.t 0)) 171 false, Og 173 (.nilck (.t 172)) 171 false, Og 174 (.fadr 4 (.t 173)) 171 false, Og 175 (.load false 1 (.t 174)) 171 false, Og 176 (.fadr 44 (.t 5)) 171 false, Og 177 (.load true 2 (.t 176)) 171 false, Og 178 (.lookup false (true, [.i .i64, .i .i64]) (.c (.bool false)) (.t 175) (.t 177)) 171 false, Oo 179 (.pick (.t 171) (.k (.c (.bool true))) (.t 178))]
    (.fl 0 (.fl 1 (.fl 2 (.fl 3 (.fl 4 (.fl 5 (.fl 6 (.fl 7 (.fl 8 (.fl 9 (.fl 10 .done))))))))))) [0, 5, 16, 179])
  (.cond (.t 179) (.seq (.reg [B 8 (.asg (.k (.c (.int .i64 3))))] [8])
  .ret)
  .skip))
  (.seq (.regd [Oo 180 (.mv (.t 0)), Oo 181 (.nilck (.t 180)), Oo 182 (.fadr 4 (.t 181)), Oo 183 (.load false 1 (.t 182)), Oo 184 (.fadr 44 (.t 5)), Oo 185 (.load true 2 (.t 184)), On (.mupd (true, [.i .i64, .i .i64]) (.t 183) (.t 185) (.k (.c (.bool true))))]
    (.fl 0 (.fl 1 (.fl 2 (.fl 3 (.fl 4 (.fl 5 (.ch 6 [] .done))))))) [0, 5, 16])
  (.seq (.regd [Oo 186 (.mv (.t 0)), Oo 187 (.nilck (.t 186)), Oo 188 (.fadr 1 (.t 187)), Oo 189 (.load false 1 (.t 188)), Oo 190 (.load true 2 (.t 16)), Oo 191 (.lookup false (true, [.i .i64, .i .i64]) (.c (.sl 14 [] .nil)) (.t 189) (.t 190)), Oo 192 (.call 92 [(.t 191)]), Oo 18 (.asg (.t 192))]
    (.fl 0 (.fl 1 (.fl 2 (.fl 3 (.fl 4 (.fl 5 (.ch 6 [] (.ch 7 [] .done)))))))) [0, 5, 16, 18])
  (.seq (.reg [B 193 (.mv (.t 18)), B 194 (.mkfn 94 [(.t 5)]), B 195 (.call 93 [(.t 193), (.t 194)]), B 19 (.asg (.t 195))] [0, 16, 18, 19])
  (.seq (.reg [B 196 (.mv (.t 18)), B 197 (.mv (.t 19)), B 198 (.mv (.t 18)), B 199 (.mv (.t 19)), B 200 (.build [.int .i64 0, .int .i64 0, .int .i64 0, .str [], .sl 1 [] .nil, .sl 6 [] .nil] []), B 201 (.iadr 14 (.t 196) (.t 197)), B 202 (.fadr 9 (.t 201)), Bn (.store 1 (.t 202) (.k (.c (.bool true)))), B 203 (.iadr 14 (.t 198) (.t 199)), B 204 (.fadr 3 (.t 203)), Bn (.store 6 (.t 204) (.t 200))] [0, 16, 18])
  (.regd [Oo 205 (.mv (.t 0)), Oo 206 (.nilck (.t 205)), Oo 207 (.fadr 1 (.t 206)), Oo 208 (.load false 1 (.t 207)), Oo 209 (.load true 2 (.t 16)), Oo 210 (.mv (.t 18)), On (.mupd (true, [.i .i64, .i .i64]) (.t 208) (.t 209) (.t 210))]
    (.fl 0 (.fl 1 (.fl 2 (.fl 3 (.fl 4 (.fl 5 (.ch 6 [] .done))))))) [])))))))
  (.seq (.regd [Oo 31 (.mv (.t 0)), Oo 32 (.nilck (.t 31)), Oo 33 (.fadr 0 (.t 32)), Oo 34 (.load false 1 (.t 33)), Oo 35 (.load true 46 (.t 5)), Oo 36 (.call 95 [(.t 34), (.t 35)]), Oo 8 (.asg (.t 36))]
    (.fl 0 (.fl 1 (.fl 2 (.fl 3 (.fl 4 (.ch 5 [] (.ch 6 [] .done))))))) [8])
  .ret)))))))
  (.seq (.reg [B 8 (.asg (.k (.c (.int .i64 0))))] [8])
  .ret)))))
def r50 : List ARes := [.tmp 8]
theorem k50 : bChk Tryz.prog 50 Tryz.f50 4 c50 r50 = true := by kernel_rfl
theorem p50 : Tryz.prog.funcs[50]? = some Tryz.f50 := by kernel_rfl

/-- scrivener/scrivenerref11.Check -/
def c51 : BCode :=
  (.seq (.reg [B 1 (.boxR (.t 0)), B 2 (.asg (.k (.c (.int .i64 0))))] [1])
  (.seq (.seq (.reg [B 5 (.fadr 0 (.t 1)), B 6 (.load false 1 (.t 5)), B 7 (.call 96 [(.t 6), (.k (.c (.int .i64 0))), (.k (.c (.int .i64 2147483648)))]), B 8 (.not (.t 7)), B 9 (.mv (.t 8)), Bg 10 (.fadr 1 (.t 1)) 9 false, Bg 11 (.load false 1 (.t 10)) 9 false, Bg 12 (.call 96 [(.t 11), (.k (.c (.int .i64 0))), (.k (.c (.int .i64 9007199254740992)))]) 9 false, Bg 13 (.not (.t 12)) 9 false, B 14 (.pick (.t 9) (.k (.c (.bool true))) (.t 13)), B 15 (.mv (.t 14)), Bg 16 (.fadr 2 (.t 1)) 15 false, Bg 17 (.load false 1 (.t 16)) 15 false, Bg 18 (.call 96 [(.t 17), (.k (.c (.int .i64 0))), (.k (.c (.int .i64 9007199254740992)))]) 15 false, Bg 19 (.not (.t 18)) 15 false, B 20 (.pick (.t 15) (.k (.c (.bool true))) (.t 19)), B 21 (.mv (.t 20)), Bg 22 (.fadr 35 (.t 1)) 21 false, Bg 23 (.load false 1 (.t 22)) 21 false, Bg 24 (.len (.t 23)) 21 false, Bg 25 (.call 96 [(.t 24), (.k (.c (.int .i64 1))), (.k (.c (.int .i64 200)))]) 21 false, Bg 26 (.not (.t 25)) 21 false, B 27 (.pick (.t 21) (.k (.c (.bool true))) (.t 26))] [1, 27])
  (.cond (.t 27) (.seq (.reg [B 2 (.asg (.k (.c (.int .i64 1))))] [2])
  .ret)
  .skip))
  (.seq (.seq (.reg [B 3 (.asg (.k (.c (.int .i64 0))))] [1, 3])
  (.block 0 (.loop (.seq (.seq (.reg [B 28 (.mv (.t 3)), B 29 (.fadr 35 (.t 1)), B 30 (.load false 1 (.t 29)), B 31 (.len (.t 30)), B 32 (.bin .lt (.t 28) (.t 31))] [1, 3, 32])
  (.cond (.t 32) .skip
  (.exit 0)))
  (.seq (.block 1 (.seq (.reg [B 35 (.fadr 35 (.t 1)), B 36 (.load false 1 (.t 35)), B 37 (.mv (.t 3)), B 38 (.iadr 46 (.t 36) (.t 37)), B 39 (.load true 46 (.t 38)), B 40 (.call 97 [(.t 39)]), B 4 (.asg (.t 40))] [1, 3, 4])
  (.seq (.reg [B 41 (.mv (.t 4)), B 42 (.bin .ne (.t 41) (.k (.c (.int .i64 0))))] [1, 3, 4, 42])
  (.cond (.t 42) (.seq (.reg [B 43 (.mv (.t 4)), B 2 (.asg (.t 43))] [2])
  .ret)
  .skip))))
  (.reg [B 33 (.mv (.t 3)), B 34 (.bin .add (.t 33) (.k (.c (.int .i64 1)))), B 3 (.asg (.t 34))] [1, 3]))))))
  (.seq (.seq (.reg [B 44 (.load true 36 (.t 1)), B 45 (.call 98 [(.t 44), (.k (.c (.bool true)))]), B 46 (.len (.t 45)), B 47 (.bin .gt (.t 46) (.k (.c (.int .i64 262144))))] [47])
  (.cond (.t 47) (.seq (.reg [B 2 (.asg (.k (.c (.int .i64 5))))] [2])
  .ret)
  .skip))
  (.seq (.reg [B 2 (.asg (.k (.c (.int .i64 0))))] [2])
  .ret)))))
def r51 : List ARes := [.tmp 2]
theorem k51 : bChk Tryz.prog 51 Tryz.f51 1 c51 r51 = true := by kernel_rfl
theorem p51 : Tryz.prog.funcs[51]? = some Tryz.f51 := by kernel_rfl

/-- (*scrivener/scrivenerref15.Views).entry -/
def c52 : BCode :=
  (.seq (.reg [B 4 (.boxR (.t 1)), B 6 (.asg (.k (.c (.int .i64 0))))] [0, 2, 4])
  (.seq (.reg [B 14 (.fadr 35 (.t 4)), B 15 (.load false 1 (.t 14)), B 16 (.mv (.t 2)), B 17 (.iadr 46 (.t 15) (.t 16)), B 18 (.load true 46 (.t 17)), B 7 (.alloc [.int .i64 0, .str [], .int .i64 0, .int .i64 0, .int .i64 0, .int .i64 0, .int .i64 0, .int .i64 0, .str [], .sl 1 [] .nil, .sl 6 [] .nil, .int .u8 0, .int .u8 0, .int .u8 0, .int .u8 0, .int .u8 0, .int .u8 0, .int .u8 0, .int .u8 0, .int .u8 0, .int .u8 0, .int .u8 0, .int .u8 0, .int .u8 0, .int .u8 0, .int .u8 0, .int .u8 0, .int .u8 0, .int .u8 0, .int .u8 0, .int .u8 0, .int .u8 0, .int .u8 0, .int .u8 0, .int .u8 0, .int .u8 0, .int .u8 0, .int .u8 0, .int .u8 0, .int .u8 0, .int .u8 0, .int .u8 0, .int .u8 0, .bool false, .int .i64 0, .int .i64 0]), Bn (.store 46 (.t 7) (.t 18))] [0, 2, 4, 7])
  (.seq (.regd [Oo 19 (.mv (.t 0)), Oo 20 (.nilck (.t 19)), Oo 21 (.fadr 0 (.t 20)), Oo 22 (.load false 1 (.t 21)), Oo 23 (.load true 46 (.t 7)), Oo 24 (.call 99 [(.t 22), (.t 23)]), Oo 8 (.asg (.t 24))]
    (.fl 0 (.fl 1 (.fl 2 (.fl 3 (.fl 4 (.ch 5 [] (.ch 6 [] .done))))))) [0, 2, 4, 7, 8])
  (.seq (.seq (.reg [B 25 (.mv (.t 8)), B 26 (.bin .ne (.t 25) (.k (.c (.int .i64 0))))] [0, 2, 4, 7, 8, 26])
  (.cond (.t 26) (.seq (.reg [B 27 (.mv (.t 8)), B 6 (.asg (.t 27))] [6])
  .ret)
  .skip))
  (.seq (.seq (.reg [B 28 (.fadr 0 (.t 7)), B 29 (.load false 1 (.t 28))] [0, 2, 4, 7, 29])
  (.block 0 (.seq (.seq (.reg [B 31 (.bin .eq (.t 29) (.k (.c (.int .i64 2)))), B 30 (.asg (.t 31))] [0, 2, 4, 7, 29, 30])
  (.cond (.t 30) .skip
  (.reg [B 32 (.bin .eq (.t 29) (.k (.c (.int .i64 3)))), B 30 (.asg (.t 32))] [0, 2, 4, 7, 29, 30])))
  (.cond (.t 30) (.seq (.regd [Oo 34 (.mv (.t 0)), Oo 35 (.nilck (.t 34)), Oo 36 (.fadr 0 (.t 35)), Oo 37 (.load false 1 (.t 36)), Oo 38 (.fadr 2 (.t 7)), Oo 39 (.load false 1 (.t 38)), Oo 40 (.call 29 [(.t 37), (.t 39)]), Oo 33 (.mv (.t 40)), Oo 41 (.extract 0 (.t 33)), Oo 42 (.extract 1 (.t 33)), Oo 9 (.alloc [.int .i64 0, .str [], .bool false, .sl 1 [] .nil]), On (.store 4 (.t 9) (.t 41)), Oo 10 (.asg (.t 42))]
    (.fl 0 (.fl 1 (.fl 2 (.fl 3 (.fl 4 (.fl 5 (.alt 6 [] (.fl 7 (.fl 8 (.fl 9 (.ch 10 [3, 5] (.ch 11 [] (.ch 12 [] .done)))))) 10 [3, 5] (.ch 6 [] (.fl 7 (.fl 8 (.fl 9 (.ch 11 [] (.ch 12 [] .done))))))))))))) [0, 2, 4, 7, 9, 10])
  (.seq (.seq (.reg [B 43 (.mv (.t 10)), B 44 (.bin .ne (.t 43) (.k (.c (.int .i64 0)))), B 45 (.mv (.t 44)), Bg 46 (.fadr 2 (.t 9)) 45 false, Bg 47 (.load false 1 (.t 46)) 45 false, B 48 (.pick (.t 45) (.k (.c (.bool true))) (.t 47))] [0, 2, 4, 7, 48])
  (.cond (.t 48) (.seq (.reg [B 6 (.asg (.k (.c (.int .i64 3))))] [6])
  .ret)
  .skip))
  (.seq (.seq (.reg [B 49 (.fadr 4 (.t 7)), B 50 (.load false 1 (.t 49)), B 51 (.bin .eq (.t 50) (.k (.c (.int .i64 0))))] [0, 2, 4, 7, 51])
  (.cond (.t 51) (.seq (.regd [Oo 52 (.fadr 3 (.t 7)), Oo 53 (.load false 1 (.t 52)), Oo 54 (.mv (.t 0)), Oo 55 (.fadr 2 (.t 7)), Oo 56 (.load false 1 (.t 55)), Oo 57 (.call 57 [(.t 54), (.t 56)]), Oo 58 (.bin .ne (.t 53) (.t 57))]
    (.fl 0 (.fl 1 (.fl 2 (.fl 3 (.fl 4 (.ch 5 [1] (.fl 6 .done))))))) [0, 2, 4, 7, 58])
  (.cond (.t 58) (.seq (.reg [B 6 (.asg (.k (.c (.int .i64 3))))] [6])
  .ret)
  .skip))
  (.seq (.reg [B 59 (.mv (.t 0)), B 60 (.fadr 2 (.t 7)), B 61 (.load false 1 (.t 60)), B 62 (.fadr 3 (.t 7)), B 63 (.load false 1 (.t 62)), B 64 (.call 100 [(.t 59), (.t 61), (.t 63)]), B 11 (.asg (.t 64))] [0, 2, 4, 7, 11])
  (.seq (.regd [Oo 65 (.mv (.t 11)), Oo 66 (.bin .lt (.t 65) (.k (.c (.int .i64 0)))), Oo 67 (.mv (.t 66)), Og 68 (.mv (.t 0)) 67 false, Og 69 (.nilck (.t 68)) 67 false, Og 70 (.fadr 1 (.t 69)) 67 false, Og 71 (.load false 1 (.t 70)) 67 false, Og 72 (.mv (.t 11)) 67 false, Og 73 (.iadr 14 (.t 71) (.t 72)) 67 false, Og 74 (.fadr 10 (.t 73)) 67 false, Og 75 (.load false 1 (.t 74)) 67 false, Oo 76 (.pick (.t 67) (.k (.c (.bool true))) (.t 75)), Oo 77 (.mv (.t 76)), Og 78 (.mv (.t 0)) 77 false, Og 79 (.nilck (.t 78)) 77 false, Og 80 (.fadr 1 (.t 79)) 77 false, Og 81 (.load false 1 (.t 80)) 77 false, Og 82 (.mv (.t 11)) 77 false, Og 83 (.iadr 14 (.t 81) (.t 82)) 77 false, Og 84 (.fadr 2 (.t 83)) 77 false, Og 85 (.load false 1 (.t 84)) 77 false, Og 86 (.bin .add (.t 85) (.k (.c (.int .i64 1)))) 77 false, Og 87 (.fadr 4 (.t 7)) 77 false, Og 88 (.load false 1 (.t 87)) 77 false, Og 89 (.bin .ne (.t 86) (.t 88)) 77 false, Oo 90 (.pick (.t 77) (.k (.c (.bool true))) (.t 89))]
    (.fl 0 (.fl 1 (.fl 2 (.fl 3 (.fl 4 (.fl 5 (.fl 6 (.fl 7 (.fl 8 (.fl 9 (.fl 10 (.fl 11 (.fl 12 (.fl 13 (.fl 14 (.fl 15 (.fl 16 (.fl 17 (.fl 18 (.fl 19 (.fl 20 (.fl 21 (.fl 22 (.fl 23 (.fl 24 (.fl 25 .done)))))))))))))))))))))))))) [0, 2, 4, 7, 90])
  (.cond (.t 90) (.seq (.reg [B 6 (.asg (.k (.c (.int .i64 3))))] [6])
  .ret)
  .skip)))))
  (.regd [Oo 91 (.mv (.t 0)), Oo 92 (.mv (.t 0)), Oo 93 (.nilck (.t 92)), Oo 94 (.fadr 1 (.t 93)), Oo 95 (.load false 1 (.t 94)), Oo 96 (.fadr 2 (.t 7)), Oo 97 (.load false 1 (.t 96)), Oo 98 (.fadr 3 (.t 7)), Oo 99 (.load false 1 (.t 98)), Oo 100 (.fadr 4 (.t 7)), Oo 101 (.load false 1 (.t 100)), Oo 102 (.fadr 5 (.t 7)), Oo 103 (.load true 6 (.t 102)), Oo 104 (.call 64 [(.t 103)]), Oo 105 (.fadr 43 (.t 7)), Oo 106 (.load false 1 (.t 105)), Oo 107 (.fadr 0 (.t 7)), Oo 108 (.load false 1 (.t 107)), Oo 109 (.bin .eq (.t 108) (.k (.c (.int .i64 3)))), Oo 110 (.fadr 0 (.t 4)), Oo 111 (.load false 1 (.t 110)), Oo 112 (.mv (.t 2)), Oo 113 (.fadr 1 (.t 4)), Oo 114 (.load false 1 (.t 113)), Oo 115 (.build [.int .i64 0, .int .i64 0, .int .i64 0, .int .i64 0, .int .i64 0, .int .i64 0, .str [], .sl 1 [] .nil, .sl 6 [] .nil, .bool false, .bool false, .int .i64 0, .int .i64 0, .int .i64 0] [(0, 1, (.t 97)), (1, 1, (.t 99)), (2, 1, (.t 101)), (3, 6, (.t 104)), (9, 1, (.t 106)), (10, 1, (.t 109)), (11, 1, (.t 111)), (12, 1, (.t 112)), (13, 1, (.t 114))]), Oo 116 (.slR 14 1 [.int .i64 0, .int .i64 0, .int .i64 0, .int .i64 0, .int .i64 0, .int .i64 0, .str [], .sl 1 [] .nil, .sl 6 [] .nil, .bool false, .bool false, .int .i64 0, .int .i64 0, .int .i64 0] [(0, 14, (.t 115))]), Oo 117 (.app 14 144 (.t 95) (.t 116)), Oo 118 (.nilck (.t 91)), Oo 119 (.fadr 1 (.t 118)), On (.store 1 (.t 119) (.t 117))]
    (.fl 0 (.fl 1 (.fl 2 (.fl 3 (.fl 4 (.fl 5 (.fl 6 (.fl 7 (.fl 8 (.fl 9 (.fl 10 (.fl 11 (.fl 12 (.fl 14 (.fl 15 (.fl 16 (.fl 17 (.fl 18 (.fl 19 (.fl 20 (.fl 21 (.fl 22 (.fl 23 (.ch 13 [4, 6, 8, 10, 15, 17, 20, 23] (.fl 24 (.fl 25 (.ch 26 [] (.fl 27 (.fl 28 (.ch 29 [] .done)))))))))))))))))))))))))))))) []))))
  (.seq (.reg [B 121 (.bin .eq (.t 29) (.k (.c (.int .i64 4)))), B 120 (.asg (.t 121))] [0, 7, 120])
  (.cond (.t 120) (.seq (.seq (.reg [B 12 (.asg (.k (.c (.int .i64 0))))] [0, 7, 12])
  (.block 1 (.loop (.seq (.seq (.reg [B 122 (.mv (.t 12)), B 123 (.mv (.t 0)), B 124 (.nilck (.t 123)), B 125 (.fadr 1 (.t 124)), B 126 (.load false 1 (.t 125)), B 127 (.len (.t 126)), B 128 (.bin .lt (.t 122) (.t 127))] [0, 7, 12, 128])
  (.cond (.t 128) .skip
  (.exit 1)))
  (.seq (.block 2 (.seq (.reg [B 131 (.mv (.t 0)), B 132 (.nilck (.t 131)), B 133 (.fadr 1 (.t 132)), B 134 (.load false 1 (.t 133)), B 135 (.mv (.t 12)), B 136 (.iadr 14 (.t 134) (.t 135)), B 13 (.asg (.t 136))] [0, 7, 12, 13])
  (.seq (.regd [Oo 137 (.mv (.t 13)), Oo 138 (.nilck (.t 137)), Oo 139 (.fadr 11 (.t 138)), Oo 140 (.load false 1 (.t 139)), Oo 141 (.fadr 44 (.t 7)), Oo 142 (.fadr 0 (.t 141)), Oo 143 (.load false 1 (.t 142)), Oo 144 (.bin .eq (.t 140) (.t 143)), Oo 145 (.mv (.t 144)), Og 146 (.mv (.t 13)) 145 true, Og 147 (.nilck (.t 146)) 145 true, Og 148 (.fadr 12 (.t 147)) 145 true, Og 149 (.load false 1 (.t 148)) 145 true, Og 150 (.fadr 44 (.t 7)) 145 true, Og 151 (.fadr 1 (.t 150)) 145 true, Og 152 (.load false 1 (.t 151)) 145 true, Og 153 (.bin .eq (.t 149) (.t 152)) 145 true, Oo 154 (.pick (.t 145) (.t 153) (.k (.c (.bool false)))), Oo 155 (.mv (.t 154)), Og 156 (.mv (.t 13)) 155 true, Og 157 (.nilck (.t 156)) 155 true, Og 158 (.fadr 10 (.t 157)) 155 true, Og 159 (.load false 1 (.t 158)) 155 true, Og 160 (.not (.t 159)) 155 true, Oo 161 (.pick (.t 155) (.t 160) (.k (.c (.bool false)))), Oo 162 (.mv (.t 161)), Og 163 (.mv (.t 0)) 162 true, Og 164 (.nilck (.t 163)) 162 true, Og 165 (.fadr 3 (.t 164)) 162 true, Og 166 (.load false 1 (.t 165)) 162 true, Og 167 (.fadr 44 (.t 7)) 162 true, Og 168 (.load true 2 (.t 167)) 162 true, Og 169 (.lookup false (true, [.i .i64, .i .i64]) (.c (.int .i64 0)) (.t 166) (.t 168)) 162 true, Og 170 (.bin .eq (.t 169) (.k (.c (.int .i64 0)))) 162 true, Oo 171 (.pick (.t 162) (.t 170) (.k (.c (.bool false))))]
    (.fl 0 (.fl 1 (.fl 2 (.fl 3 (.fl 4 (.fl 5 (.fl 6 (.fl 7 (.fl 8 (.fl 9 (.fl 10 (.fl 11 (.fl 12 (.fl 13 (.fl 14 (.fl 15 (.fl 16 (.fl 17 (.fl 18 (.fl 19 (.fl 20 (.fl 21 (.fl 22 (.fl 23 (.fl 24 (.fl 25 (.fl 26 (.fl 27 (.fl 28 (.fl 29 (.fl 30 (.fl 31 (.fl 32 (.fl 33 (.fl 34 .done))))))))))))))))))))))))))))))))))) [0, 7, 12, 13, 171])
  (.cond (.t 171) (.seq (.regd [Oo 172 (.mv (.t 0)), Oo 173 (.nilck (.t 172)), Oo 174 (.fadr 3 (.t 173)), Oo 175 (.load false 1 (.t 174)), Oo 176 (.fadr 44 (.t 7)), Oo 177 (.load true 2 (.t 176)), On (.mupd (true, [.i .i64, .i .i64]) (.t 175) (.t 177) (.k (.c (.int .i64 1))))]
    (.fl 0 (.fl 1 (.fl 2 (.fl 3 (.fl 4 (.fl 5 (.ch 6 [] .done))))))) [13])
  (.seq (.reg [B 178 (.mv (.t 13)), B 179 (.nilck (.t 178)), B 180 (.fadr 9 (.t 179)), Bn (.store 1 (.t 180) (.k (.c (.bool true))))] [13])
  (.seq (.reg [B 181 (.mv (.t 13)), B 182 (.build [.int .i64 0, .int .i64 0, .int .i64 0, .str [], .sl 1 [] .nil, .sl 6 [] .nil] []), B 183 (.nilck (.t 181)), B 184 (.fadr 3 (.t 183)), Bn (.store 6 (.t 184) (.t 182))] [])
  (.seq (.reg [B 6 (.asg (.k (.c (.int .i64 0))))] [6])
  .ret))))
  .skip))))
  (.reg [B 129 (.mv (.t 12)), B 130 (.bin .add (.t 129) (.k (.c (.int .i64 1)))), B 12 (.asg (.t 130))] [0, 7, 12]))))))
  (.seq (.reg [B 6 (.asg (.k (.c (.int .i64 3))))] [6])
  .ret))
  .skip))))))
  (.seq (.reg [B 6 (.asg (.k (.c (.int .i64 0))))] [6])
  .ret))))))
def r52 : List ARes := [.tmp 6]
theorem k52 : bChk Tryz.prog 52 Tryz.f52 3 c52 r52 = true := by kernel_rfl
theorem p52 : Tryz.prog.funcs[52]? = some Tryz.f52 := by kernel_rfl

/-- (*scrivener/catalog.Catalog).All -/
def c53 : BCode :=
  (.seq (.reg [B 2 (.asg (.k (.c (.sl 4 [] .nil))))] [0])
  (.seq (.seq (.reg [B 6 (.mv (.t 0)), B 7 (.bin .eqnil (.t 6) (.k (.c (.nilp))))] [0, 7])
  (.cond (.t 7) (.seq (.reg [B 2 (.asg (.k (.c (.sl 4 [] .nil))))] [2])
  .ret)
  .skip))
  (.seq (.reg [B 3 (.asg (.k (.c (.sl 4 [] .nil))))] [0, 3])
  (.seq (.seq (.reg [B 8 (.mv (.t 0)), B 9 (.nilck (.t 8)), B 10 (.fadr 0 (.t 9)), B 11 (.load false 1 (.t 10)), B 12 (.len (.t 11)), B 13 (.mv (.k (.c (.int .i64 0))))] [3, 11, 12, 13])
  (.block 0 (.loop (.seq (.reg [B 14 (.bin .lt (.t 13) (.t 12))] [3, 11, 12, 13, 14])
  (.seq (.cond (.t 14) .skip
  (.exit 0))
  (.seq (.block 1 (.seq (.reg [B 15 (.iadr 4 (.t 11) (.t 13)), B 16 (.load true 4 (.t 15)), B 5 (.alloc [.int .i64 0, .str [], .bool false, .sl 1 [] .nil]), Bn (.store 4 (.t 5) (.t 16))] [3, 5, 11, 12, 13])
  (.reg [B 17 (.mv (.t 3)), B 18 (.load true 4 (.t 5)), B 19 (.call 101 [(.t 18)]), B 20 (.slR 4 1 [.int .i64 0, .str [], .bool false, .sl 1 [] .nil] [(0, 4, (.t 19))]), B 21 (.app 4 56 (.t 17) (.t 20)), B 3 (.asg (.t 21))] [3, 11, 12, 13])))
  (.reg [B 22 (.bin .add (.t 13) (.k (.c (.int .i64 1)))), B 13 (.mv (.t 22))] [3, 11, 12, 13])))))))
  (.seq (.reg [B 23 (.mv (.t 3)), B 2 (.asg (.t 23))] [2])
  .ret)))))
def r53 : List ARes := [.tmp 2]
theorem k53 : bChk Tryz.prog 53 Tryz.f53 1 c53 r53 = true := by kernel_rfl
theorem p53 : Tryz.prog.funcs[53]? = some Tryz.f53 := by kernel_rfl

/-- scrivener/scrivenerlaw15.all -/
def c54 : BCode :=
  (.seq (.reg [B 4 (.asg (.k (.c (.bool false))))] [0, 1])
  (.seq (.seq (.reg [B 6 (.mv (.t 0)), B 7 (.len (.t 6)), B 8 (.mv (.t 1)), B 9 (.len (.t 8)), B 10 (.bin .ne (.t 7) (.t 9))] [0, 1, 10])
  (.cond (.t 10) (.seq (.reg [B 4 (.asg (.k (.c (.bool false))))] [4])
  .ret)
  .skip))
  (.seq (.seq (.reg [B 5 (.asg (.k (.c (.int .i64 0))))] [0, 1, 5])
  (.block 0 (.loop (.seq (.seq (.reg [B 11 (.mv (.t 5)), B 12 (.mv (.t 0)), B 13 (.len (.t 12)), B 14 (.bin .lt (.t 11) (.t 13))] [0, 1, 5, 14])
  (.cond (.t 14) .skip
  (.exit 0)))
  (.seq (.block 1 (.seq (.regd [Oo 17 (.mv (.t 0)), Oo 18 (.mv (.t 5)), Oo 19 (.iadr 14 (.t 17) (.t 18)), Oo 20 (.load true 14 (.t 19)), Oo 21 (.mv (.t 1)), Oo 22 (.mv (.t 5)), Oo 23 (.iadr 14 (.t 21) (.t 22)), Oo 24 (.load true 14 (.t 23)), Oo 25 (.call 25 [(.t 20), (.t 24)]), Oo 26 (.not (.t 25))]
    (.fl 0 (.fl 1 (.fl 2 (.fl 3 (.fl 4 (.fl 5 (.fl 6 (.fl 7 (.ch 8 [] (.fl 9 .done)))))))))) [0, 1, 5, 26])
  (.cond (.t 26) (.seq (.reg [B 4 (.asg (.k (.c (.bool false))))] [4])
  .ret)
  .skip)))
  (.reg [B 15 (.mv (.t 5)), B 16 (.bin .add (.t 15) (.k (.c (.int .i64 1)))), B 5 (.asg (.t 16))] [0, 1, 5]))))))
  (.seq (.reg [B 4 (.asg (.k (.c (.bool true))))] [4])
  .ret))))
def r54 : List ARes := [.tmp 4]
theorem k54 : bChk Tryz.prog 54 Tryz.f54 2 c54 r54 = true := by kernel_rfl
theorem p54 : Tryz.prog.funcs[54]? = some Tryz.f54 := by kernel_rfl

/-- (*scrivener/scrivenerref15.Views).Docs -/
def c55 : BCode :=
  (.seq (.reg [B 4 (.asg (.k (.c (.sl 14 [] .nil))))] [0, 1])
  (.seq (.reg [B 13 (.mv (.t 0)), B 14 (.nilck (.t 13)), B 15 (.fadr 0 (.t 14)), B 16 (.load false 1 (.t 15)), B 17 (.mv (.t 1)), B 18 (.call 29 [(.t 16), (.t 17)]), B 12 (.mv (.t 18)), B 19 (.extract 0 (.t 12)), B 20 (.extract 1 (.t 12)), B 5 (.alloc [.int .i64 0, .str [], .bool false, .sl 1 [] .nil]), Bn (.store 4 (.t 5) (.t 19)), B 6 (.asg (.t 20))] [0, 1, 5, 6])
  (.seq (.seq (.reg [B 21 (.mv (.t 6)), B 22 (.bin .ne (.t 21) (.k (.c (.int .i64 0)))), B 23 (.mv (.t 22)), Bg 24 (.fadr 2 (.t 5)) 23 false, Bg 25 (.load false 1 (.t 24)) 23 false, B 26 (.pick (.t 23) (.k (.c (.bool true))) (.t 25))] [0, 1, 26])
  (.cond (.t 26) (.seq (.reg [B 4 (.asg (.k (.c (.sl 14 [] .nil))))] [4])
  .ret)
  .skip))
  (.seq (.reg [B 27 (.mv (.t 0)), B 28 (.mv (.t 1)), B 29 (.call 57 [(.t 27), (.t 28)]), B 7 (.asg (.t 29))] [0, 1, 7])
  (.seq (.reg [B 30 (.mv (.t 7)), B 31 (.mksl true 1 8 [.int .i64 0] (.t 30) (.t 30)), B 8 (.asg (.t 31))] [0, 1, 7, 8])
  (.seq (.seq (.reg [B 9 (.asg (.k (.c (.int .i64 0))))] [0, 1, 7, 8, 9])
  (.block 0 (.loop (.seq (.seq (.reg [B 32 (.mv (.t 9)), B 33 (.mv (.t 0)), B 34 (.nilck (.t 33)), B 35 (.fadr 1 (.t 34)), B 36 (.load false 1 (.t 35)), B 37 (.len (.t 36)), B 38 (.bin .lt (.t 32) (.t 37))] [0, 1, 7, 8, 9, 38])
  (.cond (.t 38) .skip
  (.exit 0)))
  (.seq (.block 1 (.seq (.reg [B 41 (.mv (.t 0)), B 42 (.nilck (.t 41)), B 43 (.fadr 1 (.t 42)), B 44 (.load false 1 (.t 43)), B 45 (.mv (.t 9)), B 46 (.iadr 14 (.t 44) (.t 45)), B 47 (.fadr 0 (.t 46)), B 48 (.load false 1 (.t 47)), B 49 (.mv (.t 1)), B 50 (.bin .eq (.t 48) (.t 49)), B 51 (.mv (.t 50)), Bg 52 (.mv (.t 0)) 51 true, Bg 53 (.nilck (.t 52)) 51 true, Bg 54 (.fadr 1 (.t 53)) 51 true, Bg 55 (.load false 1 (.t 54)) 51 true, Bg 56 (.mv (.t 9)) 51 true, Bg 57 (.iadr 14 (.t 55) (.t 56)) 51 true, Bg 58 (.fadr 1 (.t 57)) 51 true, Bg 59 (.load false 1 (.t 58)) 51 true, Bg 60 (.mv (.t 7)) 51 true, Bg 61 (.bin .lt (.t 59) (.t 60)) 51 true, B 62 (.pick (.t 51) (.t 61) (.k (.c (.bool false))))] [0, 1, 7, 8, 9, 62])
  (.cond (.t 62) (.reg [B 63 (.mv (.t 8)), B 64 (.mv (.t 0)), B 65 (.nilck (.t 64)), B 66 (.fadr 1 (.t 65)), B 67 (.load false 1 (.t 66)), B 68 (.mv (.t 9)), B 69 (.iadr 14 (.t 67) (.t 68)), B 70 (.fadr 1 (.t 69)), B 71 (.load false 1 (.t 70)), B 72 (.mv (.t 9)), B 73 (.bin .add (.t 72) (.k (.c (.int .i64 1)))), B 74 (.iadr 1 (.t 63) (.t 71)), Bn (.store 1 (.t 74) (.t 73))] [0, 1, 7, 8, 9])
  .skip)))
  (.reg [B 39 (.mv (.t 9)), B 40 (.bin .add (.t 39) (.k (.c (.int .i64 1)))), B 9 (.asg (.t 40))] [0, 1, 7, 8, 9]))))))
  (.seq (.reg [B 10 (.asg (.k (.c (.sl 14 [] .nil))))] [0, 7, 8, 10])
  (.seq (.seq (.reg [B 11 (.asg (.k (.c (.int .i64 1))))] [0, 7, 8, 10, 11])
  (.block 2 (.loop (.seq (.seq (.reg [B 75 (.mv (.t 11)), B 76 (.mv (.t 7)), B 77 (.bin .lt (.t 75) (.t 76))] [0, 7, 8, 10, 11, 77])
  (.cond (.t 77) .skip
  (.exit 2)))
  (.seq (.block 3 (.seq (.regd [Oo 80 (.mv (.t 8)), Oo 81 (.mv (.t 11)), Oo 82 (.iadr 1 (.t 80) (.t 81)), Oo 83 (.load false 1 (.t 82)), Oo 84 (.bin .gt (.t 83) (.k (.c (.int .i64 0)))), Oo 85 (.mv (.t 84)), Og 86 (.mv (.t 0)) 85 true, Og 87 (.nilck (.t 86)) 85 true, Og 88 (.fadr 1 (.t 87)) 85 true, Og 89 (.load false 1 (.t 88)) 85 true, Og 90 (.mv (.t 8)) 85 true, Og 91 (.mv (.t 11)) 85 true, Og 92 (.iadr 1 (.t 90) (.t 91)) 85 true, Og 93 (.load false 1 (.t 92)) 85 true, Og 94 (.bin .sub (.t 93) (.k (.c (.int .i64 1)))) 85 true, Og 95 (.iadr 14 (.t 89) (.t 94)) 85 true, Og 96 (.fadr 10 (.t 95)) 85 true, Og 97 (.load false 1 (.t 96)) 85 true, Og 98 (.not (.t 97)) 85 true, Oo 99 (.pick (.t 85) (.t 98) (.k (.c (.bool false)))), Oo 100 (.mv (.t 99)), Og 101 (.mv (.t 0)) 100 true, Og 102 (.nilck (.t 101)) 100 true, Og 103 (.fadr 1 (.t 102)) 100 true, Og 104 (.load false 1 (.t 103)) 100 true, Og 105 (.mv (.t 8)) 100 true, Og 106 (.mv (.t 11)) 100 true, Og 107 (.iadr 1 (.t 105) (.t 106)) 100 true, Og 108 (.load false 1 (.t 107)) 100 true, Og 109 (.bin .sub (.t 108) (.k (.c (.int .i64 1)))) 100 true, Og 110 (.iadr 14 (.t 104) (.t 109)) 100 true, Og 111 (.fadr 9 (.t 110)) 100 true, Og 112 (.load false 1 (.t 111)) 100 true, Og 113 (.not (.t 112)) 100 true, Oo 114 (.pick (.t 100) (.t 113) (.k (.c (.bool false))))]
    (.fl 0 (.fl 1 (.fl 2 (.fl 3 (.fl 4 (.fl 5 (.fl 6 (.fl 7 (.fl 8 (.fl 9 (.fl 10 (.fl 11 (.fl 12 (.fl 13 (.fl 14 (.fl 15 (.fl 16 (.fl 17 (.fl 18 (.fl 19 (.fl 20 (.fl 21 (.fl 22 (.fl 23 (.fl 24 (.fl 25 (.fl 26 (.fl 27 (.fl 28 (.fl 29 (.fl 30 (.fl 31 (.fl 32 (.fl 33 (.fl 34 .done))))))))))))))))))))))))))))))))))) [0, 7, 8, 10, 11, 114])
  (.cond (.t 114) (.regd [Oo 115 (.mv (.t 10)), Oo 116 (.mv (.t 0)), Oo 117 (.nilck (.t 116)), Oo 118 (.fadr 1 (.t 117)), Oo 119 (.load false 1 (.t 118)), Oo 120 (.mv (.t 8)), Oo 121 (.mv (.t 11)), Oo 122 (.iadr 1 (.t 120) (.t 121)), Oo 123 (.load false 1 (.t 122)), Oo 124 (.bin .sub (.t 123) (.k (.c (.int .i64 1)))), Oo 125 (.iadr 14 (.t 119) (.t 124)), Oo 126 (.load true 14 (.t 125)), Oo 127 (.call 102 [(.t 126)]), Oo 128 (.slR 14 1 [.int .i64 0, .int .i64 0, .int .i64 0, .int .i64 0, .int .i64 0, .int .i64 0, .str [], .sl 1 [] .nil, .sl 6 [] .nil, .bool false, .bool false, .int .i64 0, .int .i64 0, .int .i64 0] [(0, 14, (.t 127))]), Oo 129 (.app 14 144 (.t 115) (.t 128)), Oo 10 (.asg (.t 129))]
    (.fl 0 (.fl 1 (.fl 2 (.fl 3 (.fl 4 (.fl 5 (.fl 6 (.fl 7 (.fl 8 (.fl 9 (.fl 10 (.fl 11 (.ch 12 [] (.fl 13 (.ch 14 [] (.ch 15 [] .done)))))))))))))))) [0, 7, 8, 10, 11])
  .skip)))
  (.reg [B 78 (.mv (.t 11)), B 79 (.bin .add (.t 78) (.k (.c (.int .i64 1)))), B 11 (.asg (.t 79))] [0, 7, 8, 10, 11]))))))
  (.seq (.reg [B 130 (.mv (.t 10)), B 4 (.asg (.t 130))] [4])
  .ret)))))))))
def r55 : List ARes := [.tmp 4]
theorem k55 : bChk Tryz.prog 55 Tryz.f55 2 c55 r55 = true := by kernel_rfl
theorem p55 : Tryz.prog.funcs[55]? = some Tryz.f55 := by kernel_rfl

/-- (*scrivener/scrivenerref15.Views).History -/
def c56 : BCode :=
  (.seq (.reg [B 4 (.asg (.k (.c (.sl 14 [] .nil))))] [0, 1])
  (.seq (.reg [B 5 (.asg (.k (.c (.sl 14 [] .nil))))] [0, 1, 5])
  (.seq (.reg [B 11 (.mv (.t 0)), B 12 (.mv (.t 1)), B 13 (.call 57 [(.t 11), (.t 12)]), B 6 (.asg (.t 13))] [0, 1, 5, 6])
  (.seq (.reg [B 14 (.mv (.t 6)), B 15 (.mm true (.k (.c (.int .i64 1))) (.t 14)), B 16 (.mksl true 1 24 [.sl 1 [] .nil] (.t 15) (.t 15)), B 7 (.asg (.t 16))] [0, 1, 5, 7])
  (.seq (.seq (.reg [B 8 (.asg (.k (.c (.int .i64 0))))] [0, 1, 5, 7, 8])
  (.block 0 (.loop (.seq (.seq (.reg [B 17 (.mv (.t 8)), B 18 (.mv (.t 0)), B 19 (.nilck (.t 18)), B 20 (.fadr 1 (.t 19)), B 21 (.load false 1 (.t 20)), B 22 (.len (.t 21)), B 23 (.bin .lt (.t 17) (.t 22))] [0, 1, 5, 7, 8, 23])
  (.cond (.t 23) .skip
  (.exit 0)))
  (.seq (.block 1 (.seq (.reg [B 26 (.mv (.t 0)), B 27 (.nilck (.t 26)), B 28 (.fadr 1 (.t 27)), B 29 (.load false 1 (.t 28)), B 30 (.mv (.t 8)), B 31 (.iadr 14 (.t 29) (.t 30)), B 32 (.fadr 0 (.t 31)), B 33 (.load false 1 (.t 32)), B 34 (.mv (.t 1)), B 35 (.bin .eq (.t 33) (.t 34))] [0, 1, 5, 7, 8, 35])
  (.cond (.t 35) (.regd [Oo 36 (.mv (.t 7)), Oo 37 (.mv (.t 0)), Oo 38 (.nilck (.t 37)), Oo 39 (.fadr 1 (.t 38)), Oo 40 (.load false 1 (.t 39)), Oo 41 (.mv (.t 8)), Oo 42 (.iadr 14 (.t 40) (.t 41)), Oo 43 (.fadr 1 (.t 42)), Oo 44 (.load false 1 (.t 43)), Oo 45 (.mv (.t 7)), Oo 46 (.mv (.t 0)), Oo 47 (.nilck (.t 46)), Oo 48 (.fadr 1 (.t 47)), Oo 49 (.load false 1 (.t 48)), Oo 50 (.mv (.t 8)), Oo 51 (.iadr 14 (.t 49) (.t 50)), Oo 52 (.fadr 1 (.t 51)), Oo 53 (.load false 1 (.t 52)), Oo 54 (.iadr 1 (.t 45) (.t 53)), Oo 55 (.load false 1 (.t 54)), Oo 56 (.mv (.t 8)), Oo 57 (.slR 1 1 [.int .i64 0] [(0, 1, (.t 56))]), Oo 58 (.app 1 8 (.t 55) (.t 57)), Oo 59 (.iadr 1 (.t 36) (.t 44)), On (.store 1 (.t 59) (.t 58))]
    (.fl 0 (.fl 1 (.fl 2 (.fl 3 (.fl 4 (.fl 5 (.fl 6 (.fl 7 (.fl 8 (.fl 9 (.fl 10 (.fl 11 (.fl 12 (.fl 13 (.fl 14 (.fl 15 (.fl 16 (.fl 17 (.fl 18 (.fl 19 (.fl 20 (.fl 21 (.ch 22 [4, 6, 8] (.fl 23 (.ch 24 [] .done))))))))))))))))))))))))) [0, 1, 5, 7, 8])
  .skip)))
  (.reg [B 24 (.mv (.t 8)), B 25 (.bin .add (.t 24) (.k (.c (.int .i64 1)))), B 8 (.asg (.t 25))] [0, 1, 5, 7, 8]))))))
  (.seq (.seq (.reg [B 9 (.asg (.k (.c (.int .i64 0))))] [0, 5, 7, 9])
  (.block 2 (.loop (.seq (.seq (.reg [B 60 (.mv (.t 9)), B 61 (.mv (.t 7)), B 62 (.len (.t 61)), B 63 (.bin .lt (.t 60) (.t 62))] [0, 5, 7, 9, 63])
  (.cond (.t 63) .skip
  (.exit 2)))
  (.seq (.block 3 (.seq (.reg [B 10 (.asg (.k (.c (.int .i64 0))))] [0, 5, 7, 9, 10])
  (.block 4 (.loop (.seq (.seq (.reg [B 66 (.mv (.t 10)), B 67 (.mv (.t 7)), B 68 (.mv (.t 9)), B 69 (.iadr 1 (.t 67) (.t 68)), B 70 (.load false 1 (.t 69)), B 71 (.len (.t 70)), B 72 (.bin .lt (.t 66) (.t 71))] [0, 5, 7, 9, 10, 72])
  (.cond (.t 72) .skip
  (.exit 4)))
  (.seq (.block 5 (.regd [Oo 75 (.mv (.t 5)), Oo 76 (.mv (.t 0)), Oo 77 (.nilck (.t 76)), Oo 78 (.fadr 1 (.t 77)), Oo 79 (.load false 1 (.t 78)), Oo 80 (.mv (.t 7)), Oo 81 (.mv (.t 9)), Oo 82 (.iadr 1 (.t 80) (.t 81)), Oo 83 (.load false 1 (.t 82)), Oo 84 (.mv (.t 10)), Oo 85 (.iadr 1 (.t 83) (.t 84)), Oo 86 (.load false 1 (.t 85)), Oo 87 (.iadr 14 (.t 79) (.t 86)), Oo 88 (.load true 14 (.t 87)), Oo 89 (.call 102 [(.t 88)]), Oo 90 (.slR 14 1 [.int .i64 0, .int .i64 0, .int .i64 0, .int .i64 0, .int .i64 0, .int .i64 0, .str [], .sl 1 [] .nil, .sl 6 [] .nil, .bool false, .bool false, .int .i64 0, .int .i64 0, .int .i64 0] [(0, 14, (.t 89))]), Oo 91 (.app 14 144 (.t 75) (.t 90)), Oo 5 (.asg (.t 91))]
    (.fl 0 (.fl 1 (.fl 2 (.fl 3 (.fl 4 (.fl 5 (.fl 6 (.fl 7 (.fl 8 (.fl 9 (.fl 10 (.fl 11 (.fl 12 (.fl 13 (.ch 14 [] (.fl 15 (.ch 16 [] (.ch 17 [] .done)))))))))))))))))) [0, 5, 7, 9, 10]))
  (.reg [B 73 (.mv (.t 10)), B 74 (.bin .add (.t 73) (.k (.c (.int .i64 1)))), B 10 (.asg (.t 74))] [0, 5, 7, 9, 10])))))))
  (.reg [B 64 (.mv (.t 9)), B 65 (.bin .add (.t 64) (.k (.c (.int .i64 1)))), B 9 (.asg (.t 65))] [0, 5, 7, 9]))))))
  (.seq (.reg [B 92 (.mv (.t 5)), B 4 (.asg (.t 92))] [4])
  .ret)))))))
def r56 : List ARes := [.tmp 4]
theorem k56 : bChk Tryz.prog 56 Tryz.f56 2 c56 r56 = true := by kernel_rfl
theorem p56 : Tryz.prog.funcs[56]? = some Tryz.f56 := by kernel_rfl

/-- (*scrivener/scrivenerref15.Views).Next -/
def c57 : BCode :=
  (.seq (.reg [B 4 (.asg (.k (.c (.int .i64 0))))] [0, 1])
  (.seq (.reg [B 10 (.mv (.t 0)), B 11 (.nilck (.t 10)), B 12 (.fadr 0 (.t 11)), B 13 (.load false 1 (.t 12)), B 14 (.mv (.t 1)), B 15 (.call 29 [(.t 13), (.t 14)]), B 9 (.mv (.t 15)), B 16 (.extract 0 (.t 9)), B 17 (.extract 1 (.t 9)), B 5 (.alloc [.int .i64 0, .str [], .bool false, .sl 1 [] .nil]), Bn (.store 4 (.t 5) (.t 16)), B 6 (.asg (.t 17))] [0, 1, 6])
  (.seq (.seq (.reg [B 18 (.mv (.t 6)), B 19 (.bin .ne (.t 18) (.k (.c (.int .i64 0))))] [0, 1, 19])
  (.cond (.t 19) (.seq (.reg [B 4 (.asg (.k (.c (.int .i64 0))))] [4])
  .ret)
  .skip))
  (.seq (.reg [B 7 (.asg (.k (.c (.int .i64 1))))] [0, 1, 7])
  (.seq (.seq (.reg [B 8 (.asg (.k (.c (.int .i64 0))))] [0, 1, 7, 8])
  (.block 0 (.loop (.seq (.seq (.reg [B 20 (.mv (.t 8)), B 21 (.mv (.t 0)), B 22 (.nilck (.t 21)), B 23 (.fadr 1 (.t 22)), B 24 (.load false 1 (.t 23)), B 25 (.len (.t 24)), B 26 (.bin .lt (.t 20) (.t 25))] [0, 1, 7, 8, 26])
  (.cond (.t 26) .skip
  (.exit 0)))
  (.seq (.block 1 (.seq (.reg [B 29 (.mv (.t 0)), B 30 (.nilck (.t 29)), B 31 (.fadr 1 (.t 30)), B 32 (.load false 1 (.t 31)), B 33 (.mv (.t 8)), B 34 (.iadr 14 (.t 32) (.t 33)), B 35 (.fadr 0 (.t 34)), B 36 (.load false 1 (.t 35)), B 37 (.mv (.t 1)), B 38 (.bin .eq (.t 36) (.t 37)), B 39 (.mv (.t 38)), Bg 40 (.mv (.t 0)) 39 true, Bg 41 (.nilck (.t 40)) 39 true, Bg 42 (.fadr 1 (.t 41)) 39 true, Bg 43 (.load false 1 (.t 42)) 39 true, Bg 44 (.mv (.t 8)) 39 true, Bg 45 (.iadr 14 (.t 43) (.t 44)) 39 true, Bg 46 (.fadr 2 (.t 45)) 39 true, Bg 47 (.load false 1 (.t 46)) 39 true, Bg 48 (.bin .eq (.t 47) (.k (.c (.int .i64 0)))) 39 true, B 49 (.pick (.t 39) (.t 48) (.k (.c (.bool false))))] [0, 1, 7, 8, 49])
  (.cond (.t 49) (.reg [B 50 (.mv (.t 7)), B 51 (.bin .add (.t 50) (.k (.c (.int .i64 1)))), B 7 (.asg (.t 51))] [0, 1, 7, 8])
  .skip)))
  (.reg [B 27 (.mv (.t 8)), B 28 (.bin .add (.t 27) (.k (.c (.int .i64 1)))), B 8 (.asg (.t 28))] [0, 1, 7, 8]))))))
  (.seq (.reg [B 52 (.mv (.t 7)), B 4 (.asg (.t 52))] [4])
  .ret))))))
def r57 : List ARes := [.tmp 4]
theorem k57 : bChk Tryz.prog 57 Tryz.f57 2 c57 r57 = true := by kernel_rfl
theorem p57 : Tryz.prog.funcs[57]? = some Tryz.f57 := by kernel_rfl

/-- (*scrivener/scrivenerref15.Views).Doc -/
def c58 : BCode :=
  (.seq (.reg [B 6 (.alloc [.int .i64 0, .int .i64 0, .int .i64 0, .int .i64 0, .int .i64 0, .int .i64 0, .str [], .sl 1 [] .nil, .sl 6 [] .nil, .bool false, .bool false, .int .i64 0, .int .i64 0, .int .i64 0]), B 7 (.asg (.k (.c (.bool false))))] [0, 1, 2, 6])
  (.seq (.reg [B 12 (.mv (.t 0)), B 13 (.nilck (.t 12)), B 14 (.fadr 0 (.t 13)), B 15 (.load false 1 (.t 14)), B 16 (.mv (.t 1)), B 17 (.call 29 [(.t 15), (.t 16)]), B 11 (.mv (.t 17)), B 18 (.extract 0 (.t 11)), B 19 (.extract 1 (.t 11)), B 8 (.alloc [.int .i64 0, .str [], .bool false, .sl 1 [] .nil]), Bn (.store 4 (.t 8) (.t 18)), B 9 (.asg (.t 19))] [0, 1, 2, 6, 8, 9])
  (.seq (.reg [B 20 (.mv (.t 0)), B 21 (.mv (.t 1)), B 22 (.mv (.t 2)), B 23 (.call 100 [(.t 20), (.t 21), (.t 22)]), B 10 (.asg (.t 23))] [0, 6, 8, 9, 10])
  (.seq (.seq (.reg [B 24 (.mv (.t 9)), B 25 (.bin .ne (.t 24) (.k (.c (.int .i64 0)))), B 26 (.mv (.t 25)), Bg 27 (.fadr 2 (.t 8)) 26 false, Bg 28 (.load false 1 (.t 27)) 26 false, B 29 (.pick (.t 26) (.k (.c (.bool true))) (.t 28)), B 30 (.mv (.t 29)), Bg 31 (.mv (.t 10)) 30 false, Bg 32 (.bin .lt (.t 31) (.k (.c (.int .i64 0)))) 30 false, B 33 (.pick (.t 30) (.k (.c (.bool true))) (.t 32)), B 34 (.mv (.t 33)), Bg 35 (.mv (.t 0)) 34 false, Bg 36 (.nilck (.t 35)) 34 false, Bg 37 (.fadr 1 (.t 36)) 34 false, Bg 38 (.load false 1 (.t 37)) 34 false, Bg 39 (.mv (.t 10)) 34 false, Bg 40 (.iadr 14 (.t 38) (.t 39)) 34 false, Bg 41 (.fadr 10 (.t 40)) 34 false, Bg 42 (.load false 1 (.t 41)) 34 false, B 43 (.pick (.t 34) (.k (.c (.bool true))) (.t 42)), B 44 (.mv (.t 43)), Bg 45 (.mv (.t 0)) 44 false, Bg 46 (.nilck (.t 45)) 44 false, Bg 47 (.fadr 1 (.t 46)) 44 false, Bg 48 (.load false 1 (.t 47)) 44 false, Bg 49 (.mv (.t 10)) 44 false, Bg 50 (.iadr 14 (.t 48) (.t 49)) 44 false, Bg 51 (.fadr 9 (.t 50)) 44 false, Bg 52 (.load false 1 (.t 51)) 44 false, B 53 (.pick (.t 44) (.k (.c (.bool true))) (.t 52))] [0, 6, 10, 53])
  (.cond (.t 53) (.seq (.reg [B 54 (.build [.int .i64 0, .int .i64 0, .int .i64 0, .int .i64 0, .int .i64 0, .int .i64 0, .str [], .sl 1 [] .nil, .sl 6 [] .nil, .bool false, .bool false, .int .i64 0, .int .i64 0, .int .i64 0] []), Bn (.store 14 (.t 6) (.t 54)), B 7 (.asg (.k (.c (.bool false))))] [6, 7])
  .ret)
  .skip))
  (.seq (.reg [B 55 (.mv (.t 0)), B 56 (.nilck (.t 55)), B 57 (.fadr 1 (.t 56)), B 58 (.load false 1 (.t 57)), B 59 (.mv (.t 10)), B 60 (.iadr 14 (.t 58) (.t 59)), B 61 (.load true 14 (.t 60)), B 62 (.call 102 [(.t 61)]), Bn (.store 14 (.t 6) (.t 62)), B 7 (.asg (.k (.c (.bool true))))] [6, 7])
  .ret)))))
def r58 : List ARes := [.cell 6 true 14, .tmp 7]
theorem k58 : bChk Tryz.prog 58 Tryz.f58 3 c58 r58 = true := by kernel_rfl
theorem p58 : Tryz.prog.funcs[58]? = some Tryz.f58 := by kernel_rfl

/-- (*scrivener/catalog.Catalog).Copy -/
def c59 : BCode :=
  (.seq (.reg [B 2 (.asg (.k (.c (.nilp))))] [0])
  (.seq (.seq (.reg [B 4 (.mv (.t 0)), B 5 (.bin .eqnil (.t 4) (.k (.c (.nilp))))] [0, 5])
  (.cond (.t 5) (.seq (.reg [B 2 (.asg (.k (.c (.nilp))))] [2])
  .ret)
  .skip))
  (.seq (.regd [Oo 6 (.mv (.t 0)), Oo 7 (.call 53 [(.t 6)]), Oo 8 (.mv (.t 0)), Oo 9 (.nilck (.t 8)), Oo 10 (.fadr 1 (.t 9)), Oo 11 (.load false 1 (.t 10)), Oo 12 (.mv (.t 0)), Oo 13 (.nilck (.t 12)), Oo 14 (.fadr 2 (.t 13)), Oo 15 (.load false 1 (.t 14)), Oo 16 (.call 103 [(.t 15)]), Oo 17 (.build [.sl 4 [] .nil, .int .u64 0, .nilmap] [(0, 1, (.t 7)), (1, 1, (.t 11)), (2, 1, (.t 16))]), Oo 18 (.box (.t 17)), Oo 3 (.asg (.t 18))]
    (.fl 0 (.fl 2 (.fl 3 (.fl 4 (.fl 5 (.fl 6 (.fl 7 (.fl 8 (.fl 9 (.ch 1 [5, 9] (.ch 10 [5] (.fl 11 (.ch 12 [] (.ch 13 [] .done)))))))))))))) [3])
  (.seq (.seq (.reg [B 19 (.mv (.t 3)), B 20 (.nilck (.t 19)), B 21 (.fadr 2 (.t 20)), B 22 (.load false 1 (.t 21)), B 23 (.bin .eqnil (.t 22) (.k (.c (.nilmap))))] [3, 23])
  (.cond (.t 23) (.reg [B 24 (.mv (.t 3)), B 25 (.mkmap), B 26 (.nilck (.t 24)), B 27 (.fadr 2 (.t 26)), Bn (.store 1 (.t 27) (.t 25))] [3])
  .skip))
  (.seq (.reg [B 28 (.mv (.t 3)), B 2 (.asg (.t 28))] [2])
  .ret)))))
def r59 : List ARes := [.tmp 2]
theorem k59 : bChk Tryz.prog 59 Tryz.f59 1 c59 r59 = true := by kernel_rfl
theorem p59 : Tryz.prog.funcs[59]? = some Tryz.f59 := by kernel_rfl

/-- maps.Clone[map[scrivener/views.key][]scrivener/views.Row,scrivener/views.key,[]scrivener/views.Row] -/
def c60 : BCode :=
  (.seq (.reg [B 2 (.asg (.k (.c (.nilmap))))] [0])
  (.seq (.seq (.reg [B 3 (.mv (.t 0)), B 4 (.bin .eqnil (.t 3) (.k (.c (.nilmap))))] [0, 4])
  (.cond (.t 4) (.seq (.reg [B 2 (.asg (.k (.c (.nilmap))))] [2])
  .ret)
  .skip))
  (.seq (.reg [B 5 (.mv (.t 0)), B 6 (.mkif 105 (.t 5)), B 7 (.mclone (.t 6)), B 8 (.tas 105 (.t 7)), B 2 (.asg (.t 8))] [2])
  .ret)))
def r60 : List ARes := [.tmp 2]
theorem k60 : bChk Tryz.prog 60 Tryz.f60 1 c60 r60 = true := by kernel_rfl
theorem p60 : Tryz.prog.funcs[60]? = some Tryz.f60 := by kernel_rfl

/-- maps.Clone[map[int]int,int,int] -/
def c61 : BCode :=
  (.seq (.reg [B 2 (.asg (.k (.c (.nilmap))))] [0])
  (.seq (.seq (.reg [B 3 (.mv (.t 0)), B 4 (.bin .eqnil (.t 3) (.k (.c (.nilmap))))] [0, 4])
  (.cond (.t 4) (.seq (.reg [B 2 (.asg (.k (.c (.nilmap))))] [2])
  .ret)
  .skip))
  (.seq (.reg [B 5 (.mv (.t 0)), B 6 (.mkif 106 (.t 5)), B 7 (.mclone (.t 6)), B 8 (.tas 106 (.t 7)), B 2 (.asg (.t 8))] [2])
  .ret)))
def r61 : List ARes := [.tmp 2]
theorem k61 : bChk Tryz.prog 61 Tryz.f61 1 c61 r61 = true := by kernel_rfl
theorem p61 : Tryz.prog.funcs[61]? = some Tryz.f61 := by kernel_rfl

/-- maps.Clone[map[scrivener/api.Address]scrivener/views.key,scrivener/api.Address,scrivener/views.key] -/
def c62 : BCode :=
  (.seq (.reg [B 2 (.asg (.k (.c (.nilmap))))] [0])
  (.seq (.seq (.reg [B 3 (.mv (.t 0)), B 4 (.bin .eqnil (.t 3) (.k (.c (.nilmap))))] [0, 4])
  (.cond (.t 4) (.seq (.reg [B 2 (.asg (.k (.c (.nilmap))))] [2])
  .ret)
  .skip))
  (.seq (.reg [B 5 (.mv (.t 0)), B 6 (.mkif 107 (.t 5)), B 7 (.mclone (.t 6)), B 8 (.tas 107 (.t 7)), B 2 (.asg (.t 8))] [2])
  .ret)))
def r62 : List ARes := [.tmp 2]
theorem k62 : bChk Tryz.prog 62 Tryz.f62 1 c62 r62 = true := by kernel_rfl
theorem p62 : Tryz.prog.funcs[62]? = some Tryz.f62 := by kernel_rfl

/-- maps.Clone[map[scrivener/api.Address]bool,scrivener/api.Address,bool] -/
def c63 : BCode :=
  (.seq (.reg [B 2 (.asg (.k (.c (.nilmap))))] [0])
  (.seq (.seq (.reg [B 3 (.mv (.t 0)), B 4 (.bin .eqnil (.t 3) (.k (.c (.nilmap))))] [0, 4])
  (.cond (.t 4) (.seq (.reg [B 2 (.asg (.k (.c (.nilmap))))] [2])
  .ret)
  .skip))
  (.seq (.reg [B 5 (.mv (.t 0)), B 6 (.mkif 108 (.t 5)), B 7 (.mclone (.t 6)), B 8 (.tas 108 (.t 7)), B 2 (.asg (.t 8))] [2])
  .ret)))
def r63 : List ARes := [.tmp 2]
theorem k63 : bChk Tryz.prog 63 Tryz.f63 1 c63 r63 = true := by kernel_rfl
theorem p63 : Tryz.prog.funcs[63]? = some Tryz.f63 := by kernel_rfl

/-- scrivener/scrivenerref5.Clone -/
def c64 : BCode :=
  (.seq (.reg [B 1 (.box (.t 0)), B 2 (.alloc [.int .i64 0, .int .i64 0, .int .i64 0, .str [], .sl 1 [] .nil, .sl 6 [] .nil])] [1, 2])
  (.seq (.reg [B 5 (.slE 1), B 6 (.fadr 4 (.t 1)), B 7 (.load false 1 (.t 6)), B 8 (.app 1 16 (.t 5) (.t 7)), B 9 (.fadr 4 (.t 1)), Bn (.store 1 (.t 9) (.t 8))] [1, 2])
  (.seq (.reg [B 3 (.asg (.k (.c (.sl 6 [] .nil))))] [1, 2, 3])
  (.seq (.seq (.reg [B 4 (.asg (.k (.c (.int .i64 0))))] [1, 2, 3, 4])
  (.block 0 (.loop (.seq (.seq (.reg [B 10 (.mv (.t 4)), B 11 (.fadr 5 (.t 1)), B 12 (.load false 1 (.t 11)), B 13 (.len (.t 12)), B 14 (.bin .lt (.t 10) (.t 13))] [1, 2, 3, 4, 14])
  (.cond (.t 14) .skip
  (.exit 0)))
  (.seq (.block 1 (.reg [B 17 (.mv (.t 3)), B 18 (.fadr 5 (.t 1)), B 19 (.load false 1 (.t 18)), B 20 (.mv (.t 4)), B 21 (.iadr 6 (.t 19) (.t 20)), B 22 (.load true 6 (.t 21)), B 23 (.call 64 [(.t 22)]), B 24 (.slR 6 1 [.int .i64 0, .int .i64 0, .int .i64 0, .str [], .sl 1 [] .nil, .sl 6 [] .nil] [(0, 6, (.t 23))]), B 25 (.app 6 88 (.t 17) (.t 24)), B 3 (.asg (.t 25))] [1, 2, 3, 4]))
  (.reg [B 15 (.mv (.t 4)), B 16 (.bin .add (.t 15) (.k (.c (.int .i64 1)))), B 4 (.asg (.t 16))] [1, 2, 3, 4]))))))
  (.seq (.reg [B 26 (.mv (.t 3)), B 27 (.fadr 5 (.t 1)), Bn (.store 1 (.t 27) (.t 26))] [1, 2])
  (.seq (.reg [B 28 (.load true 6 (.t 1)), Bn (.store 6 (.t 2) (.t 28))] [2])
  .ret))))))
def r64 : List ARes := [.cell 2 true 6]
theorem k64 : bChk Tryz.prog 64 Tryz.f64 1 c64 r64 = true := by kernel_rfl
theorem p64 : Tryz.prog.funcs[64]? = some Tryz.f64 := by kernel_rfl

/-- scrivener/views.told -/
def c65 : BCode :=
  (.seq (.reg [B 1 (.box (.t 0)), B 2 (.alloc [.int .i64 0, .int .i64 0, .int .i64 0, .int .i64 0, .int .i64 0, .int .i64 0, .str [], .sl 1 [] .nil, .sl 6 [] .nil, .bool false, .bool false, .int .i64 0, .int .i64 0, .int .i64 0])] [1, 2])
  (.seq (.reg [B 3 (.fadr 3 (.t 1)), B 4 (.load true 6 (.t 3)), B 5 (.call 91 [(.t 4)]), B 6 (.fadr 3 (.t 1)), Bn (.store 6 (.t 6) (.t 5))] [1, 2])
  (.seq (.reg [B 7 (.load true 14 (.t 1)), Bn (.store 14 (.t 2) (.t 7))] [2])
  .ret)))
def r65 : List ARes := [.cell 2 true 14]
theorem k65 : bChk Tryz.prog 65 Tryz.f65 1 c65 r65 = true := by kernel_rfl
theorem p65 : Tryz.prog.funcs[65]? = some Tryz.f65 := by kernel_rfl

/-- (*scrivener/views.Views).live -/
def c66 : BCode :=
  (.seq (.reg [B 3 (.boxR (.t 1)), B 4 (.alloc [.int .i64 0, .int .i64 0, .int .i64 0, .int .i64 0, .int .i64 0, .int .i64 0, .str [], .sl 1 [] .nil, .sl 6 [] .nil, .bool false, .bool false, .int .i64 0, .int .i64 0, .int .i64 0]), B 5 (.asg (.k (.c (.bool false))))] [0, 3, 4])
  (.seq (.regd [Oo 11 (.mv (.t 0)), Oo 12 (.nilck (.t 11)), Oo 13 (.fadr 0 (.t 12)), Oo 14 (.load false 1 (.t 13)), Oo 15 (.fadr 0 (.t 3)), Oo 16 (.load false 1 (.t 15)), Oo 17 (.call 68 [(.t 14), (.t 16)]), Oo 10 (.mv (.t 17)), Oo 18 (.extract 0 (.t 10)), Oo 19 (.extract 1 (.t 10)), Oo 6 (.alloc [.int .i64 0, .str [], .bool false, .sl 1 [] .nil]), On (.store 4 (.t 6) (.t 18)), Oo 7 (.asg (.t 19))]
    (.fl 0 (.fl 1 (.fl 2 (.fl 3 (.fl 4 (.fl 5 (.alt 6 [] (.fl 7 (.fl 8 (.fl 9 (.ch 10 [3, 5] (.ch 11 [] (.ch 12 [] .done)))))) 10 [3, 5] (.ch 6 [] (.fl 7 (.fl 8 (.fl 9 (.ch 11 [] (.ch 12 [] .done))))))))))))) [0, 3, 4, 6, 7])
  (.seq (.regd [Oo 20 (.mv (.t 0)), Oo 21 (.nilck (.t 20)), Oo 22 (.fadr 1 (.t 21)), Oo 23 (.load false 1 (.t 22)), Oo 24 (.load true 2 (.t 3)), Oo 25 (.lookup false (true, [.i .i64, .i .i64]) (.c (.sl 14 [] .nil)) (.t 23) (.t 24)), Oo 8 (.asg (.t 25))]
    (.fl 0 (.fl 1 (.fl 2 (.fl 3 (.fl 4 (.fl 5 (.ch 6 [] .done))))))) [4, 6, 7, 8])
  (.seq (.seq (.reg [B 26 (.mv (.t 7)), B 27 (.bin .ne (.t 26) (.k (.c (.int .i64 0)))), B 28 (.mv (.t 27)), Bg 29 (.fadr 2 (.t 6)) 28 false, Bg 30 (.load false 1 (.t 29)) 28 false, B 31 (.pick (.t 28) (.k (.c (.bool true))) (.t 30)), B 32 (.mv (.t 31)), Bg 33 (.mv (.t 8)) 32 false, Bg 34 (.len (.t 33)) 32 false, Bg 35 (.bin .eq (.t 34) (.k (.c (.int .i64 0)))) 32 false, B 36 (.pick (.t 32) (.k (.c (.bool true))) (.t 35))] [4, 8, 36])
  (.cond (.t 36) (.seq (.reg [B 37 (.build [.int .i64 0, .int .i64 0, .int .i64 0, .int .i64 0, .int .i64 0, .int .i64 0, .str [], .sl 1 [] .nil, .sl 6 [] .nil, .bool false, .bool false, .int .i64 0, .int .i64 0, .int .i64 0] []), Bn (.store 14 (.t 4) (.t 37)), B 5 (.asg (.k (.c (.bool false))))] [4, 5])
  .ret)
  .skip))
  (.seq (.reg [B 38 (.mv (.t 8)), B 39 (.mv (.t 8)), B 40 (.len (.t 39)), B 41 (.bin .sub (.t 40) (.k (.c (.int .i64 1)))), B 42 (.iadr 14 (.t 38) (.t 41)), B 43 (.load true 14 (.t 42)), B 9 (.alloc [.int .i64 0, .int .i64 0, .int .i64 0, .int .i64 0, .int .i64 0, .int .i64 0, .str [], .sl 1 [] .nil, .sl 6 [] .nil, .bool false, .bool false, .int .i64 0, .int .i64 0, .int .i64 0]), Bn (.store 14 (.t 9) (.t 43))] [4, 9])
  (.seq (.regd [Oo 44 (.load true 14 (.t 9)), Oo 45 (.fadr 10 (.t 9)), Oo 46 (.load false 1 (.t 45)), Oo 47 (.not (.t 46)), Oo 48 (.mv (.t 47)), Og 49 (.fadr 9 (.t 9)) 48 true, Og 50 (.load false 1 (.t 49)) 48 true, Og 51 (.not (.t 50)) 48 true, Oo 52 (.pick (.t 48) (.t 51) (.k (.c (.bool false)))), On (.store 14 (.t 4) (.t 44)), Oo 5 (.asg (.t 52))]
    (.fl 0 (.fl 1 (.fl 2 (.fl 3 (.fl 4 (.fl 5 (.fl 6 (.fl 7 (.fl 8 (.ch 9 [6] (.ch 10 [] .done))))))))))) [4, 5])
  .ret))))))
def r66 : List ARes := [.cell 4 true 14, .tmp 5]
theorem k66 : bChk Tryz.prog 66 Tryz.f66 2 c66 r66 = true := by kernel_rfl
theorem p66 : Tryz.prog.funcs[66]? = some Tryz.f66 := by kernel_rfl

/-- scrivener/scrivenerref5.Equal -/
def c67 : BCode :=
  (.seq (.reg [B 2 (.boxR (.t 0)), B 3 (.boxR (.t 1)), B 4 (.asg (.k (.c (.bool false))))] [2, 3])
  (.seq (.seq (.reg [B 7 (.fadr 0 (.t 2)), B 8 (.load false 1 (.t 7)), B 9 (.fadr 0 (.t 3)), B 10 (.load false 1 (.t 9)), B 11 (.bin .ne (.t 8) (.t 10)), B 12 (.mv (.t 11)), Bg 13 (.fadr 1 (.t 2)) 12 false, Bg 14 (.load false 1 (.t 13)) 12 false, Bg 15 (.fadr 1 (.t 3)) 12 false, Bg 16 (.load false 1 (.t 15)) 12 false, Bg 17 (.bin .ne (.t 14) (.t 16)) 12 false, B 18 (.pick (.t 12) (.k (.c (.bool true))) (.t 17)), B 19 (.mv (.t 18)), Bg 20 (.fadr 2 (.t 2)) 19 false, Bg 21 (.load false 1 (.t 20)) 19 false, Bg 22 (.fadr 2 (.t 3)) 19 false, Bg 23 (.load false 1 (.t 22)) 19 false, Bg 24 (.bin .ne (.t 21) (.t 23)) 19 false, B 25 (.pick (.t 19) (.k (.c (.bool true))) (.t 24)), B 26 (.mv (.t 25)), Bg 27 (.fadr 3 (.t 2)) 26 false, Bg 28 (.load false 1 (.t 27)) 26 false, Bg 29 (.fadr 3 (.t 3)) 26 false, Bg 30 (.load false 1 (.t 29)) 26 false, Bg 31 (.bin .sne (.t 28) (.t 30)) 26 false, B 32 (.pick (.t 26) (.k (.c (.bool true))) (.t 31)), B 33 (.mv (.t 32)), Bg 34 (.fadr 4 (.t 2)) 33 false, Bg 35 (.load false 1 (.t 34)) 33 false, Bg 36 (.len (.t 35)) 33 false, Bg 37 (.fadr 4 (.t 3)) 33 false, Bg 38 (.load false 1 (.t 37)) 33 false, Bg 39 (.len (.t 38)) 33 false, Bg 40 (.bin .ne (.t 36) (.t 39)) 33 false, B 41 (.pick (.t 33) (.k (.c (.bool true))) (.t 40)), B 42 (.mv (.t 41)), Bg 43 (.fadr 5 (.t 2)) 42 false, Bg 44 (.load false 1 (.t 43)) 42 false, Bg 45 (.len (.t 44)) 42 false, Bg 46 (.fadr 5 (.t 3)) 42 false, Bg 47 (.load false 1 (.t 46)) 42 false, Bg 48 (.len (.t 47)) 42 false, Bg 49 (.bin .ne (.t 45) (.t 48)) 42 false, B 50 (.pick (.t 42) (.k (.c (.bool true))) (.t 49))] [2, 3, 50])
  (.cond (.t 50) (.seq (.reg [B 4 (.asg (.k (.c (.bool false))))] [4])
  .ret)
  .skip))
  (.seq (.seq (.reg [B 5 (.asg (.k (.c (.int .i64 0))))] [2, 3, 5])
  (.block 0 (.loop (.seq (.seq (.reg [B 51 (.mv (.t 5)), B 52 (.fadr 4 (.t 2)), B 53 (.load false 1 (.t 52)), B 54 (.len (.t 53)), B 55 (.bin .lt (.t 51) (.t 54))] [2, 3, 5, 55])
  (.cond (.t 55) .skip
  (.exit 0)))
  (.seq (.block 1 (.seq (.regd [Oo 58 (.fadr 4 (.t 2)), Oo 59 (.load false 1 (.t 58)), Oo 60 (.mv (.t 5)), Oo 61 (.iadr 1 (.t 59) (.t 60)), Oo 62 (.load false 1 (.t 61)), Oo 63 (.fadr 4 (.t 3)), Oo 64 (.load false 1 (.t 63)), Oo 65 (.mv (.t 5)), Oo 66 (.iadr 1 (.t 64) (.t 65)), Oo 67 (.load false 1 (.t 66)), Oo 68 (.bin .sne (.t 62) (.t 67))]
    (.fl 0 (.fl 1 (.fl 2 (.fl 3 (.fl 4 (.fl 5 (.fl 6 (.fl 7 (.fl 8 (.fl 9 (.fl 10 .done))))))))))) [2, 3, 5, 68])
  (.cond (.t 68) (.seq (.reg [B 4 (.asg (.k (.c (.bool false))))] [4])
  .ret)
  .skip)))
  (.reg [B 56 (.mv (.t 5)), B 57 (.bin .add (.t 56) (.k (.c (.int .i64 1)))), B 5 (.asg (.t 57))] [2, 3, 5]))))))
  (.seq (.seq (.reg [B 6 (.asg (.k (.c (.int .i64 0))))] [2, 3, 6])
  (.block 2 (.loop (.seq (.seq (.reg [B 69 (.mv (.t 6)), B 70 (.fadr 5 (.t 2)), B 71 (.load false 1 (.t 70)), B 72 (.len (.t 71)), B 73 (.bin .lt (.t 69) (.t 72))] [2, 3, 6, 73])
  (.cond (.t 73) .skip
  (.exit 2)))
  (.seq (.block 3 (.seq (.regd [Oo 76 (.fadr 5 (.t 2)), Oo 77 (.load false 1 (.t 76)), Oo 78 (.mv (.t 6)), Oo 79 (.iadr 6 (.t 77) (.t 78)), Oo 80 (.load true 6 (.t 79)), Oo 81 (.fadr 5 (.t 3)), Oo 82 (.load false 1 (.t 81)), Oo 83 (.mv (.t 6)), Oo 84 (.iadr 6 (.t 82) (.t 83)), Oo 85 (.load true 6 (.t 84)), Oo 86 (.call 67 [(.t 80), (.t 85)]), Oo 87 (.not (.t 86))]
    (.fl 0 (.fl 1 (.fl 2 (.fl 3 (.fl 4 (.fl 5 (.fl 6 (.fl 7 (.fl 8 (.fl 9 (.ch 10 [] (.fl 11 .done)))))))))))) [2, 3, 6, 87])
  (.cond (.t 87) (.seq (.reg [B 4 (.asg (.k (.c (.bool false))))] [4])
  .ret)
  .skip)))
  (.reg [B 74 (.mv (.t 6)), B 75 (.bin .add (.t 74) (.k (.c (.int .i64 1)))), B 6 (.asg (.t 75))] [2, 3, 6]))))))
  (.seq (.reg [B 4 (.asg (.k (.c (.bool true))))] [4])
  .ret)))))
def r67 : List ARes := [.tmp 4]
theorem k67 : bChk Tryz.prog 67 Tryz.f67 2 c67 r67 = true := by kernel_rfl
theorem p67 : Tryz.prog.funcs[67]? = some Tryz.f67 := by kernel_rfl

/-- (*scrivener/catalog.Catalog).Table -/
def c68 : BCode :=
  (.seq (.reg [B 4 (.alloc [.int .i64 0, .str [], .bool false, .sl 1 [] .nil]), B 5 (.asg (.k (.c (.int .i64 0))))] [0, 1, 4])
  (.seq (.seq (.reg [B 6 (.mv (.t 0)), B 7 (.bin .eqnil (.t 6) (.k (.c (.nilp)))), B 8 (.mv (.t 7)), Bg 9 (.mv (.t 1)) 8 false, Bg 10 (.bin .lt (.t 9) (.k (.c (.int .i64 1)))) 8 false, B 11 (.pick (.t 8) (.k (.c (.bool true))) (.t 10)), B 12 (.mv (.t 11)), Bg 13 (.mv (.t 1)) 12 false, Bg 14 (.mv (.t 0)) 12 false, Bg 15 (.nilck (.t 14)) 12 false, Bg 16 (.fadr 0 (.t 15)) 12 false, Bg 17 (.load false 1 (.t 16)) 12 false, Bg 18 (.len (.t 17)) 12 false, Bg 19 (.bin .gt (.t 13) (.t 18)) 12 false, B 20 (.pick (.t 12) (.k (.c (.bool true))) (.t 19))] [0, 1, 4, 20])
  (.cond (.t 20) (.seq (.reg [B 21 (.build [.int .i64 0, .str [], .bool false, .sl 1 [] .nil] []), Bn (.store 4 (.t 4) (.t 21)), B 5 (.asg (.k (.c (.int .i64 7))))] [4, 5])
  .ret)
  .skip))
  (.seq (.reg [B 22 (.mv (.t 0)), B 23 (.nilck (.t 22)), B 24 (.fadr 0 (.t 23)), B 25 (.load false 1 (.t 24)), B 26 (.mv (.t 1)), B 27 (.bin .sub (.t 26) (.k (.c (.int .i64 1)))), B 28 (.iadr 4 (.t 25) (.t 27)), B 29 (.load true 4 (.t 28)), B 30 (.call 101 [(.t 29)]), Bn (.store 4 (.t 4) (.t 30)), B 5 (.asg (.k (.c (.int .i64 0))))] [4, 5])
  .ret)))
def r68 : List ARes := [.cell 4 true 4, .tmp 5]
theorem k68 : bChk Tryz.prog 68 Tryz.f68 2 c68 r68 = true := by kernel_rfl
theorem p68 : Tryz.prog.funcs[68]? = some Tryz.f68 := by kernel_rfl

/-- (*scrivener/scrivenerref14.Catalog).there -/
def c81 : BCode :=
  (.seq (.reg [B 4 (.asg (.k (.c (.nilp))))] [0, 1])
  (.seq (.seq (.reg [B 5 (.mv (.t 1)), B 6 (.bin .lt (.t 5) (.k (.c (.int .i64 1)))), B 7 (.mv (.t 6)), Bg 8 (.mv (.t 1)) 7 false, Bg 9 (.mv (.t 0)) 7 false, Bg 10 (.nilck (.t 9)) 7 false, Bg 11 (.fadr 0 (.t 10)) 7 false, Bg 12 (.load false 1 (.t 11)) 7 false, Bg 13 (.len (.t 12)) 7 false, Bg 14 (.bin .gt (.t 8) (.t 13)) 7 false, B 15 (.pick (.t 7) (.k (.c (.bool true))) (.t 14)), B 16 (.mv (.t 15)), Bg 17 (.mv (.t 0)) 16 false, Bg 18 (.nilck (.t 17)) 16 false, Bg 19 (.fadr 0 (.t 18)) 16 false, Bg 20 (.load false 1 (.t 19)) 16 false, Bg 21 (.mv (.t 1)) 16 false, Bg 22 (.bin .sub (.t 21) (.k (.c (.int .i64 1)))) 16 false, Bg 23 (.iadr 4 (.t 20) (.t 22)) 16 false, Bg 24 (.fadr 2 (.t 23)) 16 false, Bg 25 (.load false 1 (.t 24)) 16 false, B 26 (.pick (.t 16) (.k (.c (.bool true))) (.t 25))] [0, 1, 26])
  (.cond (.t 26) (.seq (.reg [B 4 (.asg (.k (.c (.nilp))))] [4])
  .ret)
  .skip))
  (.seq (.reg [B 27 (.mv (.t 0)), B 28 (.nilck (.t 27)), B 29 (.fadr 0 (.t 28)), B 30 (.load false 1 (.t 29)), B 31 (.mv (.t 1)), B 32 (.bin .sub (.t 31) (.k (.c (.int .i64 1)))), B 33 (.iadr 4 (.t 30) (.t 32)), B 4 (.asg (.t 33))] [4])
  .ret)))
def r81 : List ARes := [.tmp 4]
theorem k81 : bChk Tryz.prog 81 Tryz.f81 2 c81 r81 = true := by kernel_rfl
theorem p81 : Tryz.prog.funcs[81]? = some Tryz.f81 := by kernel_rfl

/-- scrivener/scrivenerref5.check -/
def c82 : BCode :=
  (.seq (.reg [B 2 (.boxR (.t 0)), B 4 (.asg (.k (.c (.int .i64 0))))] [1, 2])
  (.seq (.seq (.reg [B 10 (.mv (.t 1)), B 11 (.bin .gt (.t 10) (.k (.c (.int .i64 16))))] [1, 2, 11])
  (.cond (.t 11) (.seq (.reg [B 4 (.asg (.k (.c (.int .i64 9))))] [4])
  .ret)
  .skip))
  (.seq (.reg [B 12 (.fadr 3 (.t 2)), B 13 (.load false 1 (.t 12)), B 14 (.bin .sne (.t 13) (.k (.c (.str [])))), B 5 (.asg (.t 14))] [1, 2, 5])
  (.seq (.reg [B 15 (.fadr 5 (.t 2)), B 16 (.load false 1 (.t 15)), B 17 (.len (.t 16)), B 18 (.bin .gt (.t 17) (.k (.c (.int .i64 0)))), B 19 (.mv (.t 18)), Bg 20 (.fadr 4 (.t 2)) 19 false, Bg 21 (.load false 1 (.t 20)) 19 false, Bg 22 (.len (.t 21)) 19 false, Bg 23 (.bin .gt (.t 22) (.k (.c (.int .i64 0)))) 19 false, B 24 (.pick (.t 19) (.k (.c (.bool true))) (.t 23)), B 6 (.asg (.t 24))] [1, 2, 5, 6])
  (.seq (.seq (.reg [B 25 (.fadr 0 (.t 2)), B 26 (.load false 1 (.t 25))] [1, 2, 5, 6, 26])
  (.block 0 (.seq (.reg [B 28 (.bin .eq (.t 26) (.k (.c (.int .i64 1)))), B 27 (.asg (.t 28))] [1, 2, 5, 6, 26, 27])
  (.cond (.t 27) (.seq (.reg [B 29 (.fadr 1 (.t 2)), B 30 (.load false 1 (.t 29)), B 31 (.bin .ne (.t 30) (.k (.c (.int .i64 0)))), B 32 (.mv (.t 31)), Bg 33 (.fadr 2 (.t 2)) 32 false, Bg 34 (.load false 1 (.t 33)) 32 false, Bg 35 (.bin .ne (.t 34) (.k (.c (.int .i64 0)))) 32 false, B 36 (.pick (.t 32) (.k (.c (.bool true))) (.t 35)), B 37 (.mv (.t 36)), Bg 38 (.mv (.t 5)) 37 false, B 39 (.pick (.t 37) (.k (.c (.bool true))) (.t 38)), B 40 (.mv (.t 39)), Bg 41 (.mv (.t 6)) 40 false, B 42 (.pick (.t 40) (.k (.c (.bool true))) (.t 41))] [1, 2, 42])
  (.cond (.t 42) (.seq (.reg [B 4 (.asg (.k (.c (.int .i64 3))))] [4])
  .ret)
  .skip))
  (.seq (.reg [B 44 (.bin .eq (.t 26) (.k (.c (.int .i64 2)))), B 43 (.asg (.t 44))] [1, 2, 5, 6, 26, 43])
  (.cond (.t 43) (.seq (.reg [B 45 (.fadr 1 (.t 2)), B 46 (.load false 1 (.t 45)), B 47 (.bin .lt (.t 46) (.k (.c (.int .i64 0)))), B 48 (.mv (.t 47)), Bg 49 (.fadr 1 (.t 2)) 48 false, Bg 50 (.load false 1 (.t 49)) 48 false, Bg 51 (.bin .gt (.t 50) (.k (.c (.int .i64 1)))) 48 false, B 52 (.pick (.t 48) (.k (.c (.bool true))) (.t 51)), B 53 (.mv (.t 52)), Bg 54 (.fadr 2 (.t 2)) 53 false, Bg 55 (.load false 1 (.t 54)) 53 false, Bg 56 (.bin .ne (.t 55) (.k (.c (.int .i64 0)))) 53 false, B 57 (.pick (.t 53) (.k (.c (.bool true))) (.t 56)), B 58 (.mv (.t 57)), Bg 59 (.mv (.t 5)) 58 false, B 60 (.pick (.t 58) (.k (.c (.bool true))) (.t 59)), B 61 (.mv (.t 60)), Bg 62 (.mv (.t 6)) 61 false, B 63 (.pick (.t 61) (.k (.c (.bool true))) (.t 62))] [1, 2, 63])
  (.cond (.t 63) (.seq (.reg [B 4 (.asg (.k (.c (.int .i64 3))))] [4])
  .ret)
  .skip))
  (.seq (.reg [B 65 (.bin .eq (.t 26) (.k (.c (.int .i64 3)))), B 64 (.asg (.t 65))] [1, 2, 5, 6, 26, 64])
  (.cond (.t 64) (.seq (.reg [B 66 (.fadr 2 (.t 2)), B 67 (.load false 1 (.t 66)), B 68 (.bin .ne (.t 67) (.k (.c (.int .i64 0)))), B 69 (.mv (.t 68)), Bg 70 (.mv (.t 5)) 69 false, B 71 (.pick (.t 69) (.k (.c (.bool true))) (.t 70)), B 72 (.mv (.t 71)), Bg 73 (.mv (.t 6)) 72 false, B 74 (.pick (.t 72) (.k (.c (.bool true))) (.t 73))] [1, 2, 74])
  (.cond (.t 74) (.seq (.reg [B 4 (.asg (.k (.c (.int .i64 3))))] [4])
  .ret)
  .skip))
  (.seq (.reg [B 76 (.bin .eq (.t 26) (.k (.c (.int .i64 4)))), B 75 (.asg (.t 76))] [1, 2, 5, 6, 26, 75])
  (.cond (.t 75) (.seq (.reg [B 77 (.fadr 2 (.t 2)), B 78 (.load false 1 (.t 77)), B 79 (.bin .lt (.t 78) (.k (.c (.int .i64 1)))), B 80 (.mv (.t 79)), Bg 81 (.fadr 2 (.t 2)) 80 false, Bg 82 (.load false 1 (.t 81)) 80 false, Bg 83 (.bin .gt (.t 82) (.k (.c (.int .i64 18)))) 80 false, B 84 (.pick (.t 80) (.k (.c (.bool true))) (.t 83)), B 85 (.mv (.t 84)), Bg 86 (.fadr 1 (.t 2)) 85 false, Bg 87 (.load false 1 (.t 86)) 85 false, Bg 88 (.bin .rem (.t 87) (.k (.c (.int .i64 10)))) 85 false, Bg 89 (.bin .eq (.t 88) (.k (.c (.int .i64 0)))) 85 false, B 90 (.pick (.t 85) (.k (.c (.bool true))) (.t 89)), B 91 (.mv (.t 90)), Bg 92 (.mv (.t 5)) 91 false, B 93 (.pick (.t 91) (.k (.c (.bool true))) (.t 92)), B 94 (.mv (.t 93)), Bg 95 (.mv (.t 6)) 94 false, B 96 (.pick (.t 94) (.k (.c (.bool true))) (.t 95))] [1, 2, 96])
  (.cond (.t 96) (.seq (.reg [B 4 (.asg (.k (.c (.int .i64 3))))] [4])
  .ret)
  .skip))
  (.seq (.reg [B 98 (.bin .eq (.t 26) (.k (.c (.int .i64 5)))), B 97 (.asg (.t 98))] [1, 2, 5, 6, 26, 97])
  (.cond (.t 97) (.seq (.reg [B 99 (.fadr 1 (.t 2)), B 100 (.load false 1 (.t 99)), B 101 (.bin .lt (.t 100) (.k (.c (.int .i64 0)))), B 102 (.mv (.t 101)), Bg 103 (.fadr 1 (.t 2)) 102 false, Bg 104 (.load false 1 (.t 103)) 102 false, Bg 105 (.bin .gt (.t 104) (.k (.c (.int .i64 9007199254740992)))) 102 false, B 106 (.pick (.t 102) (.k (.c (.bool true))) (.t 105)), B 107 (.mv (.t 106)), Bg 108 (.fadr 2 (.t 2)) 107 false, Bg 109 (.load false 1 (.t 108)) 107 false, Bg 110 (.bin .ne (.t 109) (.k (.c (.int .i64 0)))) 107 false, B 111 (.pick (.t 107) (.k (.c (.bool true))) (.t 110)), B 112 (.mv (.t 111)), Bg 113 (.mv (.t 5)) 112 false, B 114 (.pick (.t 112) (.k (.c (.bool true))) (.t 113)), B 115 (.mv (.t 114)), Bg 116 (.mv (.t 6)) 115 false, B 117 (.pick (.t 115) (.k (.c (.bool true))) (.t 116))] [1, 2, 117])
  (.cond (.t 117) (.seq (.reg [B 4 (.asg (.k (.c (.int .i64 3))))] [4])
  .ret)
  .skip))
  (.seq (.seq (.reg [B 119 (.bin .eq (.t 26) (.k (.c (.int .i64 6)))), B 118 (.asg (.t 119))] [1, 2, 5, 6, 26, 118])
  (.cond (.t 118) .skip
  (.reg [B 120 (.bin .eq (.t 26) (.k (.c (.int .i64 7)))), B 118 (.asg (.t 120))] [1, 2, 5, 6, 26, 118])))
  (.cond (.t 118) (.seq (.seq (.reg [B 121 (.fadr 1 (.t 2)), B 122 (.load false 1 (.t 121)), B 123 (.bin .ne (.t 122) (.k (.c (.int .i64 0)))), B 124 (.mv (.t 123)), Bg 125 (.fadr 2 (.t 2)) 124 false, Bg 126 (.load false 1 (.t 125)) 124 false, Bg 127 (.bin .ne (.t 126) (.k (.c (.int .i64 0)))) 124 false, B 128 (.pick (.t 124) (.k (.c (.bool true))) (.t 127)), B 129 (.mv (.t 128)), Bg 130 (.mv (.t 6)) 129 false, B 131 (.pick (.t 129) (.k (.c (.bool true))) (.t 130))] [1, 2, 131])
  (.cond (.t 131) (.seq (.reg [B 4 (.asg (.k (.c (.int .i64 3))))] [4])
  .ret)
  .skip))
  (.seq (.reg [B 132 (.fadr 3 (.t 2)), B 133 (.load false 1 (.t 132)), B 134 (.slen (.t 133)), B 135 (.bin .gt (.t 134) (.k (.c (.int .i64 16384))))] [1, 2, 135])
  (.cond (.t 135) (.seq (.reg [B 4 (.asg (.k (.c (.int .i64 5))))] [4])
  .ret)
  .skip)))
  (.seq (.seq (.reg [B 137 (.bin .eq (.t 26) (.k (.c (.int .i64 8)))), B 136 (.asg (.t 137))] [1, 2, 5, 26, 136])
  (.cond (.t 136) .skip
  (.reg [B 138 (.bin .eq (.t 26) (.k (.c (.int .i64 9)))), B 136 (.asg (.t 138))] [1, 2, 5, 136])))
  (.cond (.t 136) (.seq (.seq (.reg [B 139 (.fadr 1 (.t 2)), B 140 (.load false 1 (.t 139)), B 141 (.bin .ne (.t 140) (.k (.c (.int .i64 0)))), B 142 (.mv (.t 141)), Bg 143 (.fadr 2 (.t 2)) 142 false, Bg 144 (.load false 1 (.t 143)) 142 false, Bg 145 (.bin .ne (.t 144) (.k (.c (.int .i64 0)))) 142 false, B 146 (.pick (.t 142) (.k (.c (.bool true))) (.t 145)), B 147 (.mv (.t 146)), Bg 148 (.mv (.t 5)) 147 false, B 149 (.pick (.t 147) (.k (.c (.bool true))) (.t 148)), B 150 (.mv (.t 149)), Bg 151 (.fadr 0 (.t 2)) 150 false, Bg 152 (.load false 1 (.t 151)) 150 false, Bg 153 (.bin .eq (.t 152) (.k (.c (.int .i64 8)))) 150 false, Bg 154 (.mv (.t 153)) 150 false, Bg 155 (.fadr 4 (.t 2)) 154 true, Bg 156 (.load false 1 (.t 155)) 154 true, Bg 157 (.len (.t 156)) 154 true, Bg 158 (.bin .gt (.t 157) (.k (.c (.int .i64 0)))) 154 true, Bg 159 (.pick (.t 154) (.t 158) (.k (.c (.bool false)))) 150 false, B 160 (.pick (.t 150) (.k (.c (.bool true))) (.t 159))] [1, 2, 160])
  (.cond (.t 160) (.seq (.reg [B 4 (.asg (.k (.c (.int .i64 3))))] [4])
  .ret)
  .skip))
  (.seq (.seq (.reg [B 161 (.fadr 5 (.t 2)), B 162 (.load false 1 (.t 161)), B 163 (.len (.t 162)), B 164 (.bin .gt (.t 163) (.k (.c (.int .i64 200))))] [1, 2, 164])
  (.cond (.t 164) (.seq (.reg [B 4 (.asg (.k (.c (.int .i64 5))))] [4])
  .ret)
  .skip))
  (.seq (.seq (.reg [B 165 (.fadr 0 (.t 2)), B 166 (.load false 1 (.t 165)), B 167 (.bin .eq (.t 166) (.k (.c (.int .i64 8))))] [1, 2, 167])
  (.cond (.t 167) (.exit 0)
  .skip))
  (.seq (.seq (.reg [B 168 (.fadr 4 (.t 2)), B 169 (.load false 1 (.t 168)), B 170 (.len (.t 169)), B 171 (.fadr 5 (.t 2)), B 172 (.load false 1 (.t 171)), B 173 (.len (.t 172)), B 174 (.bin .ne (.t 170) (.t 173))] [1, 2, 174])
  (.cond (.t 174) (.seq (.reg [B 4 (.asg (.k (.c (.int .i64 3))))] [4])
  .ret)
  .skip))
  (.seq (.reg [B 7 (.asg (.k (.c (.int .i64 0))))] [1, 2, 7])
  (.block 1 (.loop (.seq (.seq (.reg [B 175 (.mv (.t 7)), B 176 (.fadr 4 (.t 2)), B 177 (.load false 1 (.t 176)), B 178 (.len (.t 177)), B 179 (.bin .lt (.t 175) (.t 178))] [1, 2, 7, 179])
  (.cond (.t 179) .skip
  (.exit 1)))
  (.seq (.block 2 (.seq (.regd [Oo 182 (.fadr 4 (.t 2)), Oo 183 (.load false 1 (.t 182)), Oo 184 (.mv (.t 7)), Oo 185 (.iadr 1 (.t 183) (.t 184)), Oo 186 (.load false 1 (.t 185)), Oo 187 (.slen (.t 186)), Oo 188 (.bin .lt (.t 187) (.k (.c (.int .i64 1)))), Oo 189 (.mv (.t 188)), Og 190 (.fadr 4 (.t 2)) 189 false, Og 191 (.load false 1 (.t 190)) 189 false, Og 192 (.mv (.t 7)) 189 false, Og 193 (.iadr 1 (.t 191) (.t 192)) 189 false, Og 194 (.load false 1 (.t 193)) 189 false, Og 195 (.slen (.t 194)) 189 false, Og 196 (.bin .gt (.t 195) (.k (.c (.int .i64 40)))) 189 false, Oo 197 (.pick (.t 189) (.k (.c (.bool true))) (.t 196)), Oo 198 (.mv (.t 197)), Og 199 (.mv (.t 7)) 198 false, Og 200 (.bin .gt (.t 199) (.k (.c (.int .i64 0)))) 198 false, Og 201 (.mv (.t 200)) 198 false, Og 202 (.fadr 4 (.t 2)) 201 true, Og 203 (.load false 1 (.t 202)) 201 true, Og 204 (.mv (.t 7)) 201 true, Og 205 (.iadr 1 (.t 203) (.t 204)) 201 true, Og 206 (.load false 1 (.t 205)) 201 true, Og 207 (.fadr 4 (.t 2)) 201 true, Og 208 (.load false 1 (.t 207)) 201 true, Og 209 (.mv (.t 7)) 201 true, Og 210 (.bin .sub (.t 209) (.k (.c (.int .i64 1)))) 201 true, Og 211 (.iadr 1 (.t 208) (.t 210)) 201 true, Og 212 (.load false 1 (.t 211)) 201 true, Og 213 (.bin .sle (.t 206) (.t 212)) 201 true, Og 214 (.pick (.t 201) (.t 213) (.k (.c (.bool false)))) 198 false, Oo 215 (.pick (.t 198) (.k (.c (.bool true))) (.t 214))]
    (.fl 0 (.fl 1 (.fl 2 (.fl 3 (.fl 4 (.fl 5 (.fl 6 (.fl 7 (.fl 8 (.fl 9 (.fl 10 (.fl 11 (.fl 12 (.fl 13 (.fl 14 (.fl 15 (.fl 16 (.fl 17 (.fl 18 (.fl 19 (.fl 20 (.fl 21 (.fl 22 (.fl 23 (.fl 24 (.fl 25 (.fl 26 (.fl 27 (.fl 28 (.fl 29 (.fl 30 (.fl 31 (.fl 32 (.fl 33 .done)))))))))))))))))))))))))))))))))) [1, 2, 7, 215])
  (.cond (.t 215) (.seq (.reg [B 4 (.asg (.k (.c (.int .i64 3))))] [4])
  .ret)
  .skip)))
  (.reg [B 180 (.mv (.t 7)), B 181 (.bin .add (.t 180) (.k (.c (.int .i64 1)))), B 7 (.asg (.t 181))] [1, 2, 7]))))))))))
  (.seq (.reg [B 4 (.asg (.k (.c (.int .i64 3))))] [4])
  .ret)))))))))))))))))
  (.seq (.seq (.reg [B 8 (.asg (.k (.c (.int .i64 0))))] [1, 2, 8])
  (.block 3 (.loop (.seq (.seq (.reg [B 216 (.mv (.t 8)), B 217 (.fadr 5 (.t 2)), B 218 (.load false 1 (.t 217)), B 219 (.len (.t 218)), B 220 (.bin .lt (.t 216) (.t 219))] [1, 2, 8, 220])
  (.cond (.t 220) .skip
  (.exit 3)))
  (.seq (.block 4 (.seq (.reg [B 223 (.fadr 5 (.t 2)), B 224 (.load false 1 (.t 223)), B 225 (.mv (.t 8)), B 226 (.iadr 6 (.t 224) (.t 225)), B 227 (.load true 6 (.t 226)), B 228 (.mv (.t 1)), B 229 (.bin .add (.t 228) (.k (.c (.int .i64 1)))), B 230 (.call 82 [(.t 227), (.t 229)]), B 9 (.asg (.t 230))] [1, 2, 8, 9])
  (.seq (.reg [B 231 (.mv (.t 9)), B 232 (.bin .ne (.t 231) (.k (.c (.int .i64 0))))] [1, 2, 8, 9, 232])
  (.cond (.t 232) (.seq (.reg [B 233 (.mv (.t 9)), B 4 (.asg (.t 233))] [4])
  .ret)
  .skip))))
  (.reg [B 221 (.mv (.t 8)), B 222 (.bin .add (.t 221) (.k (.c (.int .i64 1)))), B 8 (.asg (.t 222))] [1, 2, 8]))))))
  (.seq (.reg [B 4 (.asg (.k (.c (.int .i64 0))))] [4])
  .ret)))))))
def r82 : List ARes := [.tmp 4]
theorem k82 : bChk Tryz.prog 82 Tryz.f82 2 c82 r82 = true := by kernel_rfl
theorem p82 : Tryz.prog.funcs[82]? = some Tryz.f82 := by kernel_rfl

/-- (*scrivener/scrivenerref14.Catalog).Copy -/
def c86 : BCode :=
  (.seq (.reg [B 2 (.asg (.k (.c (.nilp))))] [0])
  (.seq (.reg [B 6 (.build [.sl 4 [] .nil] []), B 7 (.box (.t 6)), B 3 (.asg (.t 7))] [0, 3])
  (.seq (.seq (.reg [B 4 (.asg (.k (.c (.int .i64 0))))] [0, 3, 4])
  (.block 0 (.loop (.seq (.seq (.reg [B 8 (.mv (.t 4)), B 9 (.mv (.t 0)), B 10 (.nilck (.t 9)), B 11 (.fadr 0 (.t 10)), B 12 (.load false 1 (.t 11)), B 13 (.len (.t 12)), B 14 (.bin .lt (.t 8) (.t 13))] [0, 3, 4, 14])
  (.cond (.t 14) .skip
  (.exit 0)))
  (.seq (.block 1 (.seq (.reg [B 17 (.mv (.t 0)), B 18 (.nilck (.t 17)), B 19 (.fadr 0 (.t 18)), B 20 (.load false 1 (.t 19)), B 21 (.mv (.t 4)), B 22 (.iadr 4 (.t 20) (.t 21)), B 23 (.load true 4 (.t 22)), B 5 (.alloc [.int .i64 0, .str [], .bool false, .sl 1 [] .nil]), Bn (.store 4 (.t 5) (.t 23))] [0, 3, 4, 5])
  (.seq (.reg [B 24 (.slE 1), B 25 (.fadr 3 (.t 5)), B 26 (.load false 1 (.t 25)), B 27 (.app 1 16 (.t 24) (.t 26)), B 28 (.fadr 3 (.t 5)), Bn (.store 1 (.t 28) (.t 27))] [0, 3, 4, 5])
  (.regd [Oo 29 (.mv (.t 3)), Oo 30 (.mv (.t 3)), Oo 31 (.nilck (.t 30)), Oo 32 (.fadr 0 (.t 31)), Oo 33 (.load false 1 (.t 32)), Oo 34 (.load true 4 (.t 5)), Oo 35 (.slR 4 1 [.int .i64 0, .str [], .bool false, .sl 1 [] .nil] [(0, 4, (.t 34))]), Oo 36 (.app 4 56 (.t 33) (.t 35)), Oo 37 (.nilck (.t 29)), Oo 38 (.fadr 0 (.t 37)), On (.store 1 (.t 38) (.t 36))]
    (.fl 0 (.fl 1 (.fl 2 (.fl 3 (.fl 4 (.fl 5 (.fl 6 (.ch 7 [] (.fl 8 (.fl 9 (.ch 10 [] .done))))))))))) [0, 3, 4]))))
  (.reg [B 15 (.mv (.t 4)), B 16 (.bin .add (.t 15) (.k (.c (.int .i64 1)))), B 4 (.asg (.t 16))] [0, 3, 4]))))))
  (.seq (.reg [B 39 (.mv (.t 3)), B 2 (.asg (.t 39))] [2])
  .ret))))
def r86 : List ARes := [.tmp 2]
theorem k86 : bChk Tryz.prog 86 Tryz.f86 1 c86 r86 = true := by kernel_rfl
theorem p86 : Tryz.prog.funcs[86]? = some Tryz.f86 := by kernel_rfl

/-- scrivener/scrivenerref7.Hash -/
def c87 : BCode :=
  (.seq (.reg [B 1 (.boxR (.t 0)), B 2 (.alloc [.int .u8 0, .int .u8 0, .int .u8 0, .int .u8 0, .int .u8 0, .int .u8 0, .int .u8 0, .int .u8 0, .int .u8 0, .int .u8 0, .int .u8 0, .int .u8 0, .int .u8 0, .int .u8 0, .int .u8 0, .int .u8 0, .int .u8 0, .int .u8 0, .int .u8 0, .int .u8 0, .int .u8 0, .int .u8 0, .int .u8 0, .int .u8 0, .int .u8 0, .int .u8 0, .int .u8 0, .int .u8 0, .int .u8 0, .int .u8 0, .int .u8 0, .int .u8 0]), B 3 (.asg (.k (.c (.int .i64 0))))] [1, 2])
  (.seq (.reg [B 7 (.load true 6 (.t 1)), B 8 (.call 117 [(.t 7)]), B 6 (.mv (.t 8)), B 9 (.extract 0 (.t 6)), B 10 (.extract 1 (.t 6)), B 4 (.asg (.t 9)), B 5 (.asg (.t 10))] [2, 4, 5])
  (.seq (.seq (.reg [B 11 (.mv (.t 5)), B 12 (.bin .ne (.t 11) (.k (.c (.int .i64 0))))] [2, 4, 5, 12])
  (.cond (.t 12) (.seq (.reg [B 13 (.build [.int .u8 0, .int .u8 0, .int .u8 0, .int .u8 0, .int .u8 0, .int .u8 0, .int .u8 0, .int .u8 0, .int .u8 0, .int .u8 0, .int .u8 0, .int .u8 0, .int .u8 0, .int .u8 0, .int .u8 0, .int .u8 0, .int .u8 0, .int .u8 0, .int .u8 0, .int .u8 0, .int .u8 0, .int .u8 0, .int .u8 0, .int .u8 0, .int .u8 0, .int .u8 0, .int .u8 0, .int .u8 0, .int .u8 0, .int .u8 0, .int .u8 0, .int .u8 0] []), B 14 (.mv (.t 5)), Bn (.store 32 (.t 2) (.t 13)), B 3 (.asg (.t 14))] [2, 3])
  .ret)
  .skip))
  (.seq (.reg [B 15 (.mv (.t 4)), B 16 (.call 118 [(.t 15)]), Bn (.store 32 (.t 2) (.t 16)), B 3 (.asg (.k (.c (.int .i64 0))))] [2, 3])
  .ret))))
def r87 : List ARes := [.cell 2 true 32, .tmp 3]
theorem k87 : bChk Tryz.prog 87 Tryz.f87 1 c87 r87 = true := by kernel_rfl
theorem p87 : Tryz.prog.funcs[87]? = some Tryz.f87 := by kernel_rfl

/-- scrivener/block.within -/
def c88 : BCode :=
  (.seq (.reg [B 6 (.asg (.k (.c (.bool false))))] [0, 1, 2])
  (.seq (.reg [B 7 (.mv (.t 0)), B 8 (.mv (.t 1)), B 9 (.bin .ge (.t 7) (.t 8)), B 10 (.mv (.t 9)), Bg 11 (.mv (.t 0)) 10 true, Bg 12 (.mv (.t 2)) 10 true, Bg 13 (.bin .le (.t 11) (.t 12)) 10 true, B 14 (.pick (.t 10) (.t 13) (.k (.c (.bool false)))), B 6 (.asg (.t 14))] [6])
  .ret))
def r88 : List ARes := [.tmp 6]
theorem k88 : bChk Tryz.prog 88 Tryz.f88 3 c88 r88 = true := by kernel_rfl
theorem p88 : Tryz.prog.funcs[88]? = some Tryz.f88 := by kernel_rfl

/-- scrivener/block.checkEntry -/
def c89 : BCode :=
  (.seq (.reg [B 1 (.boxR (.t 0)), B 2 (.asg (.k (.c (.int .i64 0))))] [1])
  (.seq (.seq (.reg [B 5 (.load true 46 (.t 1)), B 6 (.call 119 [(.t 5)]), B 7 (.not (.t 6))] [1, 7])
  (.cond (.t 7) (.seq (.reg [B 2 (.asg (.k (.c (.int .i64 3))))] [2])
  .ret)
  .skip))
  (.seq (.seq (.reg [B 8 (.fadr 0 (.t 1)), B 9 (.load false 1 (.t 8)), B 10 (.bin .ne (.t 9) (.k (.c (.int .i64 2)))), B 11 (.mv (.t 10)), Bg 12 (.fadr 43 (.t 1)) 11 false, Bg 13 (.load false 1 (.t 12)) 11 false, B 14 (.pick (.t 11) (.k (.c (.bool true))) (.t 13))] [1, 14])
  (.cond (.t 14) (.seq (.reg [B 2 (.asg (.k (.c (.int .i64 0))))] [2])
  .ret)
  .skip))
  (.seq (.reg [B 16 (.fadr 5 (.t 1)), B 17 (.load true 6 (.t 16)), B 18 (.call 120 [(.t 17)]), B 15 (.mv (.t 18)), B 19 (.extract 0 (.t 15)), B 20 (.extract 1 (.t 15)), B 3 (.alloc [.int .u8 0, .int .u8 0, .int .u8 0, .int .u8 0, .int .u8 0, .int .u8 0, .int .u8 0, .int .u8 0, .int .u8 0, .int .u8 0, .int .u8 0, .int .u8 0, .int .u8 0, .int .u8 0, .int .u8 0, .int .u8 0, .int .u8 0, .int .u8 0, .int .u8 0, .int .u8 0, .int .u8 0, .int .u8 0, .int .u8 0, .int .u8 0, .int .u8 0, .int .u8 0, .int .u8 0, .int .u8 0, .int .u8 0, .int .u8 0, .int .u8 0, .int .u8 0]), Bn (.store 32 (.t 3) (.t 19)), B 4 (.asg (.t 20))] [1, 3, 4])
  (.seq (.seq (.reg [B 21 (.mv (.t 4)), B 22 (.bin .eq (.t 21) (.k (.c (.int .i64 0)))), B 23 (.mv (.t 22)), Bg 24 (.load true 32 (.t 3)) 23 true, Bg 25 (.fadr 11 (.t 1)) 23 true, Bg 26 (.load true 32 (.t 25)) 23 true, Bg 27 (.aeq true (true, [.i .u8, .i .u8, .i .u8, .i .u8, .i .u8, .i .u8, .i .u8, .i .u8, .i .u8, .i .u8, .i .u8, .i .u8, .i .u8, .i .u8, .i .u8, .i .u8, .i .u8, .i .u8, .i .u8, .i .u8, .i .u8, .i .u8, .i .u8, .i .u8, .i .u8, .i .u8, .i .u8, .i .u8, .i .u8, .i .u8, .i .u8, .i .u8]) (.t 24) (.t 26)) 23 true, B 28 (.pick (.t 23) (.t 27) (.k (.c (.bool false))))] [4, 28])
  (.cond (.t 28) (.reg [B 4 (.asg (.k (.c (.int .i64 18))))] [4])
  .skip))
  (.seq (.reg [B 29 (.mv (.t 4)), B 2 (.asg (.t 29))] [2])
  .ret))))))
def r89 : List ARes := [.tmp 2]
theorem k89 : bChk Tryz.prog 89 Tryz.f89 1 c89 r89 = true := by kernel_rfl
theorem p89 : Tryz.prog.funcs[89]? = some Tryz.f89 := by kernel_rfl

/-- scrivener/block.lay -/
def c90 : BCode :=
  (.seq (.reg [B 2 (.boxR (.t 0)), B 4 (.asg (.k (.c (.sl 1 [] .nil))))] [1, 2])
  (.seq (.reg [B 10 (.load true 36 (.t 2)), B 11 (.call 121 [(.t 10)]), B 5 (.asg (.t 11))] [1, 2, 5])
  (.seq (.reg [B 12 (.mv (.t 5)), B 13 (.fadr 35 (.t 2)), B 14 (.load false 1 (.t 13)), B 15 (.len (.t 14)), B 16 (.call 122 [(.t 12), (.t 15)]), B 5 (.asg (.t 16))] [1, 2, 5])
  (.seq (.seq (.reg [B 17 (.fadr 35 (.t 2)), B 18 (.load false 1 (.t 17)), B 19 (.len (.t 18)), B 20 (.mv (.k (.c (.int .i64 0))))] [1, 5, 18, 19, 20])
  (.block 0 (.loop (.seq (.reg [B 21 (.bin .lt (.t 20) (.t 19))] [1, 5, 18, 19, 20, 21])
  (.seq (.cond (.t 21) .skip
  (.exit 0))
  (.seq (.block 1 (.seq (.reg [B 22 (.iadr 46 (.t 18) (.t 20)), B 23 (.load true 46 (.t 22)), B 7 (.alloc [.int .i64 0, .str [], .int .i64 0, .int .i64 0, .int .i64 0, .int .i64 0, .int .i64 0, .int .i64 0, .str [], .sl 1 [] .nil, .sl 6 [] .nil, .int .u8 0, .int .u8 0, .int .u8 0, .int .u8 0, .int .u8 0, .int .u8 0, .int .u8 0, .int .u8 0, .int .u8 0, .int .u8 0, .int .u8 0, .int .u8 0, .int .u8 0, .int .u8 0, .int .u8 0, .int .u8 0, .int .u8 0, .int .u8 0, .int .u8 0, .int .u8 0, .int .u8 0, .int .u8 0, .int .u8 0, .int .u8 0, .int .u8 0, .int .u8 0, .int .u8 0, .int .u8 0, .int .u8 0, .int .u8 0, .int .u8 0, .int .u8 0, .bool false, .int .i64 0, .int .i64 0]), Bn (.store 46 (.t 7) (.t 23))] [1, 5, 7, 18, 19, 20])
  (.seq (.reg [B 24 (.mv (.t 5)), B 25 (.load true 46 (.t 7)), B 26 (.call 123 [(.t 24), (.t 25)]), B 5 (.asg (.t 26))] [1, 5, 7, 18, 19, 20])
  (.seq (.seq (.reg [B 27 (.fadr 0 (.t 7)), B 28 (.load false 1 (.t 27)), B 29 (.bin .ne (.t 28) (.k (.c (.int .i64 2))))] [1, 5, 7, 18, 19, 20, 29])
  (.cond (.t 29) (.exit 1)
  .skip))
  (.seq (.seq (.reg [B 30 (.fadr 43 (.t 7)), B 31 (.load false 1 (.t 30)), B 32 (.mv (.t 31)), Bg 33 (.mv (.t 1)) 32 false, Bg 34 (.not (.t 33)) 32 false, B 35 (.pick (.t 32) (.k (.c (.bool true))) (.t 34))] [1, 5, 7, 18, 19, 20, 35])
  (.cond (.t 35) (.seq (.reg [B 36 (.mv (.t 5)), B 37 (.slR 1 1 [.int .u8 0] [(0, 1, (.k (.c (.int .u8 0))))]), B 38 (.app 1 1 (.t 36) (.t 37)), B 5 (.asg (.t 38))] [1, 5, 18, 19, 20])
  (.exit 1))
  .skip))
  (.seq (.reg [B 40 (.fadr 5 (.t 7)), B 41 (.load true 6 (.t 40)), B 42 (.call 124 [(.t 41)]), B 39 (.mv (.t 42)), B 43 (.extract 0 (.t 39)), B 44 (.extract 1 (.t 39)), B 8 (.asg (.t 43)), B 9 (.asg (.t 44))] [1, 5, 8, 18, 19, 20])
  (.reg [B 45 (.mv (.t 5)), B 46 (.slR 1 1 [.int .u8 0] [(0, 1, (.k (.c (.int .u8 1))))]), B 47 (.app 1 1 (.t 45) (.t 46)), B 48 (.mv (.t 8)), B 49 (.len (.t 48)), B 50 (.call 122 [(.t 47), (.t 49)]), B 51 (.mv (.t 8)), B 52 (.app 1 1 (.t 50) (.t 51)), B 5 (.asg (.t 52))] [1, 5, 18, 19, 20])))))))
  (.reg [B 53 (.bin .add (.t 20) (.k (.c (.int .i64 1)))), B 20 (.mv (.t 53))] [1, 5, 18, 19, 20])))))))
  (.seq (.reg [B 54 (.mv (.t 5)), B 4 (.asg (.t 54))] [4])
  .ret)))))
def r90 : List ARes := [.tmp 4]
theorem k90 : bChk Tryz.prog 90 Tryz.f90 2 c90 r90 = true := by kernel_rfl
theorem p90 : Tryz.prog.funcs[90]? = some Tryz.f90 := by kernel_rfl

/-- scrivener/views.own -/
def c91 : BCode :=
  (.seq (.reg [B 1 (.box (.t 0)), B 2 (.alloc [.int .i64 0, .int .i64 0, .int .i64 0, .str [], .sl 1 [] .nil, .sl 6 [] .nil])] [1, 2])
  (.seq (.reg [B 6 (.fadr 4 (.t 1)), B 7 (.load false 1 (.t 6)), B 8 (.call 125 [(.t 7)]), B 9 (.fadr 4 (.t 1)), Bn (.store 1 (.t 9) (.t 8))] [1, 2])
  (.seq (.reg [B 3 (.asg (.k (.c (.sl 6 [] .nil))))] [1, 2, 3])
  (.seq (.seq (.reg [B 10 (.fadr 5 (.t 1)), B 11 (.load false 1 (.t 10)), B 12 (.len (.t 11)), B 13 (.mv (.k (.c (.int .i64 0))))] [1, 2, 3, 11, 12, 13])
  (.block 0 (.loop (.seq (.reg [B 14 (.bin .lt (.t 13) (.t 12))] [1, 2, 3, 11, 12, 13, 14])
  (.seq (.cond (.t 14) .skip
  (.exit 0))
  (.seq (.block 1 (.seq (.reg [B 15 (.iadr 6 (.t 11) (.t 13)), B 16 (.load true 6 (.t 15)), B 5 (.alloc [.int .i64 0, .int .i64 0, .int .i64 0, .str [], .sl 1 [] .nil, .sl 6 [] .nil]), Bn (.store 6 (.t 5) (.t 16))] [1, 2, 3, 5, 11, 12, 13])
  (.reg [B 17 (.mv (.t 3)), B 18 (.load true 6 (.t 5)), B 19 (.call 91 [(.t 18)]), B 20 (.slR 6 1 [.int .i64 0, .int .i64 0, .int .i64 0, .str [], .sl 1 [] .nil, .sl 6 [] .nil] [(0, 6, (.t 19))]), B 21 (.app 6 88 (.t 17) (.t 20)), B 3 (.asg (.t 21))] [1, 2, 3, 11, 12, 13])))
  (.reg [B 22 (.bin .add (.t 13) (.k (.c (.int .i64 1)))), B 13 (.mv (.t 22))] [1, 2, 3, 11, 12, 13])))))))
  (.seq (.reg [B 23 (.mv (.t 3)), B 24 (.fadr 5 (.t 1)), Bn (.store 1 (.t 24) (.t 23))] [1, 2])
  (.seq (.reg [B 25 (.load true 6 (.t 1)), Bn (.store 6 (.t 2) (.t 25))] [2])
  .ret))))))
def r91 : List ARes := [.cell 2 true 6]
theorem k91 : bChk Tryz.prog 91 Tryz.f91 1 c91 r91 = true := by kernel_rfl
theorem p91 : Tryz.prog.funcs[91]? = some Tryz.f91 := by kernel_rfl

/-- slices.Clone[[]scrivener/views.Row,scrivener/views.Row] -/
def c92 : BCode :=
  (.seq (.reg [B 2 (.asg (.k (.c (.sl 14 [] .nil))))] [0])
  (.seq (.seq (.reg [B 3 (.mv (.t 0)), B 4 (.bin .eqnil (.t 3) (.k (.c (.sl 14 [] .nil))))] [0, 4])
  (.cond (.t 4) (.seq (.reg [B 2 (.asg (.k (.c (.sl 14 [] .nil))))] [2])
  .ret)
  .skip))
  (.seq (.reg [B 5 (.slE 14), B 6 (.mv (.t 0)), B 7 (.app 14 144 (.t 5) (.t 6)), B 2 (.asg (.t 7))] [2])
  .ret)))
def r92 : List ARes := [.tmp 2]
theorem k92 : bChk Tryz.prog 92 Tryz.f92 1 c92 r92 = true := by kernel_rfl
theorem p92 : Tryz.prog.funcs[92]? = some Tryz.f92 := by kernel_rfl

/-- slices.IndexFunc[[]scrivener/views.Row,scrivener/views.Row] -/
def c93 : BCode :=
  (.seq (.reg [B 4 (.asg (.k (.c (.int .i64 0))))] [0, 1])
  (.seq (.seq (.reg [B 6 (.mv (.t 0)), B 7 (.len (.t 6)), B 8 (.mv (.k (.c (.int .i64 0))))] [0, 1, 7, 8])
  (.block 0 (.loop (.seq (.reg [B 9 (.bin .lt (.t 8) (.t 7))] [0, 1, 7, 8, 9])
  (.seq (.cond (.t 9) .skip
  (.exit 0))
  (.seq (.block 1 (.seq (.reg [B 10 (.mv (.t 8)), B 5 (.asg (.t 10))] [0, 1, 5, 7, 8])
  (.seq (.reg [B 11 (.mv (.t 1)), B 12 (.mv (.t 0)), B 13 (.mv (.t 5)), B 14 (.iadr 14 (.t 12) (.t 13)), B 15 (.load true 14 (.t 14)), B 16 (.callv (.t 11) [(.t 15)])] [0, 1, 5, 7, 8, 16])
  (.cond (.t 16) (.seq (.reg [B 17 (.mv (.t 5)), B 4 (.asg (.t 17))] [4])
  .ret)
  .skip))))
  (.reg [B 18 (.bin .add (.t 8) (.k (.c (.int .i64 1)))), B 8 (.mv (.t 18))] [0, 1, 7, 8])))))))
  (.seq (.reg [B 4 (.asg (.k (.c (.int .i64 (-1)))))] [4])
  .ret)))
def r93 : List ARes := [.tmp 4]
theorem k93 : bChk Tryz.prog 93 Tryz.f93 2 c93 r93 = true := by kernel_rfl
theorem p93 : Tryz.prog.funcs[93]? = some Tryz.f93 := by kernel_rfl

/-- (*scrivener/views.Views).entry$1 -/
def c94 : BCode :=
  (.seq (.reg [B 2 (.boxR (.t 0)), B 3 (.asg (.k (.c (.bool false))))] [1, 2])
  (.seq (.reg [B 4 (.fadr 11 (.t 2)), B 5 (.load false 1 (.t 4)), B 6 (.fadr 44 (.t 1)), B 7 (.fadr 0 (.t 6)), B 8 (.load false 1 (.t 7)), B 9 (.bin .eq (.t 5) (.t 8)), B 10 (.mv (.t 9)), Bg 11 (.fadr 12 (.t 2)) 10 true, Bg 12 (.load false 1 (.t 11)) 10 true, Bg 13 (.fadr 44 (.t 1)) 10 true, Bg 14 (.fadr 1 (.t 13)) 10 true, Bg 15 (.load false 1 (.t 14)) 10 true, Bg 16 (.bin .eq (.t 12) (.t 15)) 10 true, B 17 (.pick (.t 10) (.t 16) (.k (.c (.bool false)))), B 3 (.asg (.t 17))] [3])
  .ret))
def r94 : List ARes := [.tmp 3]
theorem k94 : bChk Tryz.prog 94 Tryz.f94 2 c94 r94 = true := by kernel_rfl
theorem p94 : Tryz.prog.funcs[94]? = some Tryz.f94 := by kernel_rfl

/-- (*scrivener/catalog.Catalog).Apply -/
def c95 : BCode :=
  (.seq (.reg [B 3 (.boxR (.t 1)), B 4 (.asg (.k (.c (.int .i64 0))))] [0, 3])
  (.seq (.seq (.reg [B 11 (.mv (.t 0)), B 12 (.bin .eqnil (.t 11) (.k (.c (.nilp))))] [0, 3, 12])
  (.cond (.t 12) (.seq (.reg [B 4 (.asg (.k (.c (.int .i64 1))))] [4])
  .ret)
  .skip))
  (.seq (.seq (.reg [B 13 (.fadr 0 (.t 3)), B 14 (.load false 1 (.t 13))] [0, 3, 14])
  (.block 0 (.seq (.reg [B 16 (.bin .eq (.t 14) (.k (.c (.int .i64 5)))), B 15 (.asg (.t 16))] [0, 3, 14, 15])
  (.cond (.t 15) (.seq (.reg [B 18 (.mv (.t 0)), B 19 (.fadr 1 (.t 3)), B 20 (.load false 1 (.t 19)), B 21 (.call 126 [(.t 18), (.t 20)]), B 17 (.mv (.t 21)), B 22 (.extract 0 (.t 17)), B 23 (.extract 1 (.t 17)), B 5 (.alloc [.int .i64 0, .str [], .bool false, .sl 1 [] .nil]), Bn (.store 4 (.t 5) (.t 22)), B 6 (.asg (.t 23))] [0, 3, 6])
  (.seq (.block 1 (.seq (.reg [B 25 (.mv (.t 0)), B 26 (.nilck (.t 25)), B 27 (.fadr 0 (.t 26)), B 28 (.load false 1 (.t 27)), B 29 (.len (.t 28)), B 30 (.bin .ge (.t 29) (.k (.c (.int .i64 64)))), B 24 (.asg (.t 30))] [0, 3, 6, 24])
  (.cond (.t 24) (.seq (.reg [B 4 (.asg (.k (.c (.int .i64 17))))] [4])
  .ret)
  (.seq (.regd [Oo 32 (.fadr 2 (.t 3)), Oo 33 (.load false 1 (.t 32)), Oo 34 (.mv (.t 0)), Oo 35 (.nilck (.t 34)), Oo 36 (.fadr 0 (.t 35)), Oo 37 (.load false 1 (.t 36)), Oo 38 (.len (.t 37)), Oo 39 (.bin .add (.t 38) (.k (.c (.int .i64 1)))), Oo 40 (.bin .ne (.t 33) (.t 39)), Oo 41 (.mv (.t 40)), Og 42 (.fadr 1 (.t 3)) 41 false, Og 43 (.load false 1 (.t 42)) 41 false, Og 44 (.call 127 [(.t 43)]) 41 false, Og 45 (.not (.t 44)) 41 false, Oo 46 (.pick (.t 41) (.k (.c (.bool true))) (.t 45)), Oo 31 (.asg (.t 46))]
    (.fl 0 (.fl 1 (.fl 2 (.fl 3 (.fl 4 (.fl 5 (.fl 6 (.fl 7 (.fl 8 (.fl 9 (.fl 10 (.fl 11 (.ch 12 [] (.fl 13 (.fl 14 (.ch 15 [] .done)))))))))))))))) [0, 3, 6, 31])
  (.cond (.t 31) (.seq (.reg [B 4 (.asg (.k (.c (.int .i64 3))))] [4])
  .ret)
  (.seq (.reg [B 48 (.mv (.t 6)), B 49 (.bin .eq (.t 48) (.k (.c (.int .i64 0)))), B 47 (.asg (.t 49))] [0, 3, 47])
  (.cond (.t 47) (.seq (.reg [B 4 (.asg (.k (.c (.int .i64 8))))] [4])
  .ret)
  .skip)))))))
  (.regd [Oo 50 (.mv (.t 0)), Oo 51 (.mv (.t 0)), Oo 52 (.nilck (.t 51)), Oo 53 (.fadr 0 (.t 52)), Oo 54 (.load false 1 (.t 53)), Oo 55 (.fadr 2 (.t 3)), Oo 56 (.load false 1 (.t 55)), Oo 57 (.fadr 1 (.t 3)), Oo 58 (.load false 1 (.t 57)), Oo 59 (.build [.int .i64 0, .str [], .bool false, .sl 1 [] .nil] [(0, 1, (.t 56)), (1, 1, (.t 58))]), Oo 60 (.slR 4 1 [.int .i64 0, .str [], .bool false, .sl 1 [] .nil] [(0, 4, (.t 59))]), Oo 61 (.app 4 56 (.t 54) (.t 60)), Oo 62 (.nilck (.t 50)), Oo 63 (.fadr 0 (.t 62)), On (.store 1 (.t 63) (.t 61))]
    (.fl 0 (.fl 1 (.fl 2 (.fl 3 (.fl 4 (.fl 5 (.fl 6 (.fl 7 (.fl 8 (.fl 9 (.fl 10 (.ch 11 [] (.fl 12 (.fl 13 (.ch 14 [] .done))))))))))))))) [])))
  (.seq (.reg [B 65 (.bin .eq (.t 14) (.k (.c (.int .i64 6)))), B 64 (.asg (.t 65))] [0, 3, 14, 64])
  (.cond (.t 64) (.seq (.seq (.reg [B 66 (.mv (.t 0)), B 67 (.fadr 2 (.t 3)), B 68 (.load false 1 (.t 67)), B 69 (.call 105 [(.t 66), (.t 68)]), B 70 (.not (.t 69))] [0, 3, 70])
  (.cond (.t 70) (.seq (.reg [B 4 (.asg (.k (.c (.int .i64 7))))] [4])
  .ret)
  .skip))
  (.seq (.regd [Oo 71 (.mv (.t 0)), Oo 72 (.nilck (.t 71)), Oo 73 (.fadr 1 (.t 72)), Oo 74 (.load false 1 (.t 73)), Oo 75 (.fadr 2 (.t 3)), Oo 76 (.load false 1 (.t 75)), Oo 77 (.bin .sub (.t 76) (.k (.c (.int .i64 1)))), Oo 78 (.conv .u64 (.t 77)), Oo 79 (.bin .shl (.k (.c (.int .u64 1))) (.t 78)), Oo 80 (.bin .or (.t 74) (.t 79)), Oo 81 (.nilck (.t 71)), Oo 82 (.fadr 1 (.t 81)), On (.store 1 (.t 82) (.t 80))]
    (.fl 0 (.fl 1 (.fl 2 (.fl 3 (.fl 4 (.fl 5 (.fl 6 (.fl 7 (.fl 8 (.fl 9 (.fl 10 (.fl 11 (.ch 12 [] .done))))))))))))) [0, 3])
  (.seq (.regd [Oo 83 (.mv (.t 0)), Oo 84 (.nilck (.t 83)), Oo 85 (.fadr 0 (.t 84)), Oo 86 (.load false 1 (.t 85)), Oo 87 (.fadr 2 (.t 3)), Oo 88 (.load false 1 (.t 87)), Oo 89 (.bin .sub (.t 88) (.k (.c (.int .i64 1)))), Oo 90 (.iadr 4 (.t 86) (.t 89)), Oo 7 (.asg (.t 90))]
    (.fl 0 (.fl 1 (.fl 2 (.fl 3 (.fl 4 (.fl 5 (.fl 6 (.fl 7 (.ch 8 [] .done))))))))) [0, 3, 7])
  (.seq (.seq (.reg [B 91 (.mv (.t 7)), B 92 (.nilck (.t 91)), B 93 (.fadr 3 (.t 92)), B 94 (.load false 1 (.t 93)), B 95 (.len (.t 94)), B 96 (.mv (.k (.c (.int .i64 0))))] [0, 3, 7, 94, 95, 96])
  (.block 2 (.loop (.seq (.reg [B 97 (.bin .lt (.t 96) (.t 95))] [0, 3, 7, 94, 95, 96, 97])
  (.seq (.cond (.t 97) .skip
  (.exit 2))
  (.seq (.block 3 (.seq (.reg [B 98 (.iadr 1 (.t 94) (.t 96)), B 99 (.load true 1 (.t 98)), B 9 (.alloc [.str []]), Bn (.store 1 (.t 9) (.t 99))] [0, 3, 7, 9, 94, 95, 96])
  (.regd [Oo 100 (.mv (.t 0)), Oo 101 (.nilck (.t 100)), Oo 102 (.fadr 2 (.t 101)), Oo 103 (.load false 1 (.t 102)), Oo 104 (.fadr 2 (.t 3)), Oo 105 (.load false 1 (.t 104)), Oo 106 (.fadr 0 (.t 9)), Oo 107 (.load false 1 (.t 106)), Oo 108 (.build [.int .i64 0, .str []] [(0, 1, (.t 105)), (1, 1, (.t 107))]), On (.mdel (true, [.i .i64, .s]) (.t 103) (.t 108))]
    (.fl 0 (.fl 1 (.fl 2 (.fl 3 (.fl 4 (.fl 5 (.fl 6 (.fl 7 (.fl 8 (.ch 9 [] .done)))))))))) [0, 3, 7, 94, 95, 96])))
  (.reg [B 109 (.bin .add (.t 96) (.k (.c (.int .i64 1)))), B 96 (.mv (.t 109))] [0, 3, 7, 94, 95, 96])))))))
  (.reg [B 110 (.mv (.t 7)), B 111 (.mv (.t 7)), B 112 (.nilck (.t 110)), B 113 (.fadr 2 (.t 112)), Bn (.store 1 (.t 113) (.k (.c (.bool true)))), B 114 (.nilck (.t 111)), B 115 (.fadr 3 (.t 114)), Bn (.store 1 (.t 115) (.k (.c (.sl 1 [] .nil))))] [])))))
  (.seq (.reg [B 117 (.bin .eq (.t 14) (.k (.c (.int .i64 7)))), B 116 (.asg (.t 117))] [0, 3, 116])
  (.cond (.t 116) (.seq (.block 4 (.seq (.reg [B 119 (.mv (.t 0)), B 120 (.fadr 2 (.t 3)), B 121 (.load false 1 (.t 120)), B 122 (.call 105 [(.t 119), (.t 121)]), B 123 (.not (.t 122)), B 118 (.asg (.t 123))] [0, 3, 118])
  (.cond (.t 118) (.seq (.reg [B 4 (.asg (.k (.c (.int .i64 7))))] [4])
  .ret)
  (.seq (.reg [B 125 (.fadr 1 (.t 3)), B 126 (.load false 1 (.t 125)), B 127 (.call 127 [(.t 126)]), B 128 (.not (.t 127)), B 124 (.asg (.t 128))] [0, 3, 124])
  (.cond (.t 124) (.seq (.reg [B 4 (.asg (.k (.c (.int .i64 3))))] [4])
  .ret)
  (.seq (.regd [Oo 130 (.mv (.t 0)), Oo 131 (.nilck (.t 130)), Oo 132 (.fadr 2 (.t 131)), Oo 133 (.load false 1 (.t 132)), Oo 134 (.fadr 2 (.t 3)), Oo 135 (.load false 1 (.t 134)), Oo 136 (.fadr 1 (.t 3)), Oo 137 (.load false 1 (.t 136)), Oo 138 (.build [.int .i64 0, .str []] [(0, 1, (.t 135)), (1, 1, (.t 137))]), Oo 139 (.lookup false (true, [.i .i64, .s]) (.c (.bool false)) (.t 133) (.t 138)), Oo 129 (.asg (.t 139))]
    (.fl 0 (.fl 1 (.fl 2 (.fl 3 (.fl 4 (.fl 5 (.fl 6 (.fl 7 (.fl 8 (.fl 9 (.ch 10 [] .done))))))))))) [0, 3, 129])
  (.cond (.t 129) (.seq (.reg [B 4 (.asg (.k (.c (.int .i64 8))))] [4])
  .ret)
  (.seq (.regd [Oo 141 (.mv (.t 0)), Oo 142 (.nilck (.t 141)), Oo 143 (.fadr 0 (.t 142)), Oo 144 (.load false 1 (.t 143)), Oo 145 (.fadr 2 (.t 3)), Oo 146 (.load false 1 (.t 145)), Oo 147 (.bin .sub (.t 146) (.k (.c (.int .i64 1)))), Oo 148 (.iadr 4 (.t 144) (.t 147)), Oo 149 (.fadr 3 (.t 148)), Oo 150 (.load false 1 (.t 149)), Oo 151 (.len (.t 150)), Oo 152 (.bin .ge (.t 151) (.k (.c (.int .i64 16)))), Oo 140 (.asg (.t 152))]
    (.fl 0 (.fl 1 (.fl 2 (.fl 3 (.fl 4 (.fl 5 (.fl 6 (.fl 7 (.fl 8 (.fl 9 (.fl 10 (.fl 11 (.ch 12 [] .done))))))))))))) [0, 3, 140])
  (.cond (.t 140) (.seq (.reg [B 4 (.asg (.k (.c (.int .i64 17))))] [4])
  .ret)
  .skip)))))))))
  (.seq (.regd [Oo 153 (.mv (.t 0)), Oo 154 (.nilck (.t 153)), Oo 155 (.fadr 0 (.t 154)), Oo 156 (.load false 1 (.t 155)), Oo 157 (.fadr 2 (.t 3)), Oo 158 (.load false 1 (.t 157)), Oo 159 (.bin .sub (.t 158) (.k (.c (.int .i64 1)))), Oo 160 (.iadr 4 (.t 156) (.t 159)), Oo 10 (.asg (.t 160))]
    (.fl 0 (.fl 1 (.fl 2 (.fl 3 (.fl 4 (.fl 5 (.fl 6 (.fl 7 (.ch 8 [] .done))))))))) [0, 3, 10])
  (.seq (.regd [Oo 161 (.mv (.t 10)), Oo 162 (.mv (.t 10)), Oo 163 (.nilck (.t 162)), Oo 164 (.fadr 3 (.t 163)), Oo 165 (.load false 1 (.t 164)), Oo 166 (.mv (.t 10)), Oo 167 (.nilck (.t 166)), Oo 168 (.fadr 3 (.t 167)), Oo 169 (.load false 1 (.t 168)), Oo 170 (.len (.t 169)), Oo 171 (.mv (.t 10)), Oo 172 (.nilck (.t 171)), Oo 173 (.fadr 3 (.t 172)), Oo 174 (.load false 1 (.t 173)), Oo 175 (.len (.t 174)), Oo 176 (.slice 1 (.t 165) none (some (.t 170)) (some (.t 175))), Oo 177 (.fadr 1 (.t 3)), Oo 178 (.load false 1 (.t 177)), Oo 179 (.build [.str []] [(0, 1, (.t 178))]), Oo 180 (.slR 1 1 [.str []] [(0, 1, (.t 179))]), Oo 181 (.app 1 16 (.t 176) (.t 180)), Oo 182 (.nilck (.t 161)), Oo 183 (.fadr 3 (.t 182)), On (.store 1 (.t 183) (.t 181))]
    (.fl 0 (.fl 1 (.fl 2 (.fl 3 (.fl 4 (.fl 5 (.fl 6 (.fl 7 (.fl 8 (.fl 9 (.fl 10 (.fl 11 (.fl 12 (.fl 13 (.fl 14 (.fl 15 (.fl 16 (.fl 17 (.fl 18 (.fl 19 (.ch 20 [] (.fl 21 (.fl 22 (.ch 23 [] .done)))))))))))))))))))))))) [0, 3])
  (.seq (.seq (.reg [B 184 (.mv (.t 0)), B 185 (.nilck (.t 184)), B 186 (.fadr 2 (.t 185)), B 187 (.load false 1 (.t 186)), B 188 (.bin .eqnil (.t 187) (.k (.c (.nilmap))))] [0, 3, 188])
  (.cond (.t 188) (.reg [B 189 (.mv (.t 0)), B 190 (.mkmap), B 191 (.nilck (.t 189)), B 192 (.fadr 2 (.t 191)), Bn (.store 1 (.t 192) (.t 190))] [0, 3])
  .skip))
  (.regd [Oo 193 (.mv (.t 0)), Oo 194 (.nilck (.t 193)), Oo 195 (.fadr 2 (.t 194)), Oo 196 (.load false 1 (.t 195)), Oo 197 (.fadr 2 (.t 3)), Oo 198 (.load false 1 (.t 197)), Oo 199 (.fadr 1 (.t 3)), Oo 200 (.load false 1 (.t 199)), Oo 201 (.build [.int .i64 0, .str []] [(0, 1, (.t 198)), (1, 1, (.t 200))]), On (.mupd (true, [.i .i64, .s]) (.t 196) (.t 201) (.k (.c (.bool true))))]
    (.fl 0 (.fl 1 (.fl 2 (.fl 3 (.fl 4 (.fl 5 (.fl 6 (.fl 7 (.fl 8 (.ch 9 [] .done)))))))))) [])))))
  .skip))))))))
  (.seq (.reg [B 4 (.asg (.k (.c (.int .i64 0))))] [4])
  .ret))))
def r95 : List ARes := [.tmp 4]
theorem k95 : bChk Tryz.prog 95 Tryz.f95 2 c95 r95 = true := by kernel_rfl
theorem p95 : Tryz.prog.funcs[95]? = some Tryz.f95 := by kernel_rfl

/-- scrivener/scrivenerref11.in -/
def c96 : BCode :=
  (.seq (.reg [B 6 (.asg (.k (.c (.bool false))))] [0, 1, 2])
  (.seq (.reg [B 7 (.mv (.t 0)), B 8 (.mv (.t 1)), B 9 (.bin .ge (.t 7) (.t 8)), B 10 (.mv (.t 9)), Bg 11 (.mv (.t 0)) 10 true, Bg 12 (.mv (.t 2)) 10 true, Bg 13 (.bin .le (.t 11) (.t 12)) 10 true, B 14 (.pick (.t 10) (.t 13) (.k (.c (.bool false)))), B 6 (.asg (.t 14))] [6])
  .ret))
def r96 : List ARes := [.tmp 6]
theorem k96 : bChk Tryz.prog 96 Tryz.f96 3 c96 r96 = true := by kernel_rfl
theorem p96 : Tryz.prog.funcs[96]? = some Tryz.f96 := by kernel_rfl

/-- scrivener/scrivenerref11.May -/
def c97 : BCode :=
  (.seq (.reg [B 1 (.boxR (.t 0)), B 2 (.asg (.k (.c (.int .i64 0))))] [1])
  (.seq (.seq (.reg [B 5 (.load true 46 (.t 1)), B 6 (.call 128 [(.t 5)]), B 7 (.not (.t 6))] [1, 7])
  (.cond (.t 7) (.seq (.reg [B 2 (.asg (.k (.c (.int .i64 3))))] [2])
  .ret)
  .skip))
  (.seq (.seq (.reg [B 8 (.fadr 0 (.t 1)), B 9 (.load false 1 (.t 8)), B 10 (.bin .ne (.t 9) (.k (.c (.int .i64 2)))), B 11 (.mv (.t 10)), Bg 12 (.fadr 43 (.t 1)) 11 false, Bg 13 (.load false 1 (.t 12)) 11 false, B 14 (.pick (.t 11) (.k (.c (.bool true))) (.t 13))] [1, 14])
  (.cond (.t 14) (.seq (.reg [B 2 (.asg (.k (.c (.int .i64 0))))] [2])
  .ret)
  .skip))
  (.seq (.reg [B 16 (.fadr 5 (.t 1)), B 17 (.load true 6 (.t 16)), B 18 (.call 87 [(.t 17)]), B 15 (.mv (.t 18)), B 19 (.extract 0 (.t 15)), B 20 (.extract 1 (.t 15)), B 3 (.alloc [.int .u8 0, .int .u8 0, .int .u8 0, .int .u8 0, .int .u8 0, .int .u8 0, .int .u8 0, .int .u8 0, .int .u8 0, .int .u8 0, .int .u8 0, .int .u8 0, .int .u8 0, .int .u8 0, .int .u8 0, .int .u8 0, .int .u8 0, .int .u8 0, .int .u8 0, .int .u8 0, .int .u8 0, .int .u8 0, .int .u8 0, .int .u8 0, .int .u8 0, .int .u8 0, .int .u8 0, .int .u8 0, .int .u8 0, .int .u8 0, .int .u8 0, .int .u8 0]), Bn (.store 32 (.t 3) (.t 19)), B 4 (.asg (.t 20))] [1, 3, 4])
  (.seq (.seq (.reg [B 21 (.mv (.t 4)), B 22 (.bin .ne (.t 21) (.k (.c (.int .i64 0))))] [1, 3, 4, 22])
  (.cond (.t 22) (.seq (.reg [B 23 (.mv (.t 4)), B 2 (.asg (.t 23))] [2])
  .ret)
  .skip))
  (.seq (.seq (.reg [B 24 (.load true 32 (.t 3)), B 25 (.fadr 11 (.t 1)), B 26 (.load true 32 (.t 25)), B 27 (.aeq true (true, [.i .u8, .i .u8, .i .u8, .i .u8, .i .u8, .i .u8, .i .u8, .i .u8, .i .u8, .i .u8, .i .u8, .i .u8, .i .u8, .i .u8, .i .u8, .i .u8, .i .u8, .i .u8, .i .u8, .i .u8, .i .u8, .i .u8, .i .u8, .i .u8, .i .u8, .i .u8, .i .u8, .i .u8, .i .u8, .i .u8, .i .u8, .i .u8]) (.t 24) (.t 26))] [27])
  (.cond (.t 27) (.seq (.reg [B 2 (.asg (.k (.c (.int .i64 18))))] [2])
  .ret)
  .skip))
  (.seq (.reg [B 2 (.asg (.k (.c (.int .i64 0))))] [2])
  .ret)))))))
def r97 : List ARes := [.tmp 2]
theorem k97 : bChk Tryz.prog 97 Tryz.f97 1 c97 r97 = true := by kernel_rfl
theorem p97 : Tryz.prog.funcs[97]? = some Tryz.f97 := by kernel_rfl

/-- scrivener/scrivenerref11.bytes -/
def c98 : BCode :=
  (.seq (.reg [B 2 (.boxR (.t 0)), B 4 (.asg (.k (.c (.sl 1 [] .nil))))] [1, 2])
  (.seq (.regd [Oo 10 (.load true 36 (.t 2)), Oo 11 (.call 129 [(.t 10)]), Oo 12 (.fadr 35 (.t 2)), Oo 13 (.load false 1 (.t 12)), Oo 14 (.len (.t 13)), Oo 15 (.conv .u64 (.t 14)), Oo 16 (.call 130 [(.t 15)]), Oo 17 (.app 1 1 (.t 11) (.t 16)), Oo 5 (.asg (.t 17))]
    (.fl 0 (.fl 2 (.fl 3 (.fl 4 (.fl 5 (.ch 1 [3, 4] (.ch 6 [] (.ch 7 [] (.ch 8 [] .done))))))))) [1, 2, 5])
  (.seq (.seq (.reg [B 6 (.asg (.k (.c (.int .i64 0))))] [1, 2, 5, 6])
  (.block 0 (.loop (.seq (.seq (.reg [B 18 (.mv (.t 6)), B 19 (.fadr 35 (.t 2)), B 20 (.load false 1 (.t 19)), B 21 (.len (.t 20)), B 22 (.bin .lt (.t 18) (.t 21))] [1, 2, 5, 6, 22])
  (.cond (.t 22) .skip
  (.exit 0)))
  (.seq (.block 1 (.seq (.reg [B 25 (.fadr 35 (.t 2)), B 26 (.load false 1 (.t 25)), B 27 (.mv (.t 6)), B 28 (.iadr 46 (.t 26) (.t 27)), B 29 (.load true 46 (.t 28)), B 7 (.alloc [.int .i64 0, .str [], .int .i64 0, .int .i64 0, .int .i64 0, .int .i64 0, .int .i64 0, .int .i64 0, .str [], .sl 1 [] .nil, .sl 6 [] .nil, .int .u8 0, .int .u8 0, .int .u8 0, .int .u8 0, .int .u8 0, .int .u8 0, .int .u8 0, .int .u8 0, .int .u8 0, .int .u8 0, .int .u8 0, .int .u8 0, .int .u8 0, .int .u8 0, .int .u8 0, .int .u8 0, .int .u8 0, .int .u8 0, .int .u8 0, .int .u8 0, .int .u8 0, .int .u8 0, .int .u8 0, .int .u8 0, .int .u8 0, .int .u8 0, .int .u8 0, .int .u8 0, .int .u8 0, .int .u8 0, .int .u8 0, .int .u8 0, .bool false, .int .i64 0, .int .i64 0]), Bn (.store 46 (.t 7) (.t 29))] [1, 2, 5, 6, 7])
  (.seq (.reg [B 30 (.mv (.t 5)), B 31 (.load true 46 (.t 7)), B 32 (.call 131 [(.t 31)]), B 33 (.app 1 1 (.t 30) (.t 32)), B 5 (.asg (.t 33))] [1, 2, 5, 6, 7])
  (.seq (.seq (.reg [B 34 (.fadr 0 (.t 7)), B 35 (.load false 1 (.t 34)), B 36 (.bin .ne (.t 35) (.k (.c (.int .i64 2))))] [1, 2, 5, 6, 7, 36])
  (.cond (.t 36) (.exit 1)
  .skip))
  (.seq (.seq (.reg [B 37 (.fadr 43 (.t 7)), B 38 (.load false 1 (.t 37)), B 39 (.mv (.t 38)), Bg 40 (.mv (.t 1)) 39 false, Bg 41 (.not (.t 40)) 39 false, B 42 (.pick (.t 39) (.k (.c (.bool true))) (.t 41))] [1, 2, 5, 6, 7, 42])
  (.cond (.t 42) (.seq (.reg [B 43 (.mv (.t 5)), B 44 (.slR 1 1 [.int .u8 0] [(0, 1, (.k (.c (.int .u8 0))))]), B 45 (.app 1 1 (.t 43) (.t 44)), B 5 (.asg (.t 45))] [1, 2, 5, 6])
  (.exit 1))
  .skip))
  (.seq (.reg [B 47 (.fadr 5 (.t 7)), B 48 (.load true 6 (.t 47)), B 49 (.call 117 [(.t 48)]), B 46 (.mv (.t 49)), B 50 (.extract 0 (.t 46)), B 51 (.extract 1 (.t 46)), B 8 (.asg (.t 50)), B 9 (.asg (.t 51))] [1, 2, 5, 6, 8])
  (.seq (.reg [B 52 (.mv (.t 5)), B 53 (.slR 1 1 [.int .u8 0] [(0, 1, (.k (.c (.int .u8 1))))]), B 54 (.app 1 1 (.t 52) (.t 53)), B 5 (.asg (.t 54))] [1, 2, 5, 6, 8])
  (.seq (.reg [B 55 (.mv (.t 5)), B 56 (.mv (.t 8)), B 57 (.len (.t 56)), B 58 (.conv .u64 (.t 57)), B 59 (.call 130 [(.t 58)]), B 60 (.app 1 1 (.t 55) (.t 59)), B 5 (.asg (.t 60))] [1, 2, 5, 6, 8])
  (.reg [B 61 (.mv (.t 5)), B 62 (.mv (.t 8)), B 63 (.app 1 1 (.t 61) (.t 62)), B 5 (.asg (.t 63))] [1, 2, 5, 6])))))))))
  (.reg [B 23 (.mv (.t 6)), B 24 (.bin .add (.t 23) (.k (.c (.int .i64 1)))), B 6 (.asg (.t 24))] [1, 2, 5, 6]))))))
  (.seq (.reg [B 64 (.mv (.t 5)), B 4 (.asg (.t 64))] [4])
  .ret))))
def r98 : List ARes := [.tmp 4]
theorem k98 : bChk Tryz.prog 98 Tryz.f98 2 c98 r98 = true := by kernel_rfl
theorem p98 : Tryz.prog.funcs[98]? = some Tryz.f98 := by kernel_rfl

/-- (*scrivener/scrivenerref14.Catalog).Apply -/
def c99 : BCode :=
  (.seq (.reg [B 3 (.boxR (.t 1)), B 4 (.asg (.k (.c (.int .i64 0))))] [0, 3])
  (.seq (.seq (.reg [B 9 (.fadr 0 (.t 3)), B 10 (.load false 1 (.t 9))] [0, 3, 10])
  (.block 0 (.seq (.reg [B 12 (.bin .eq (.t 10) (.k (.c (.int .i64 5)))), B 11 (.asg (.t 12))] [0, 3, 10, 11])
  (.cond (.t 11) (.seq (.seq (.reg [B 13 (.mv (.t 0)), B 14 (.nilck (.t 13)), B 15 (.fadr 0 (.t 14)), B 16 (.load false 1 (.t 15)), B 17 (.len (.t 16)), B 18 (.bin .ge (.t 17) (.k (.c (.int .i64 64))))] [0, 3, 18])
  (.cond (.t 18) (.seq (.reg [B 4 (.asg (.k (.c (.int .i64 17))))] [4])
  .ret)
  .skip))
  (.seq (.seq (.regd [Oo 19 (.fadr 2 (.t 3)), Oo 20 (.load false 1 (.t 19)), Oo 21 (.mv (.t 0)), Oo 22 (.nilck (.t 21)), Oo 23 (.fadr 0 (.t 22)), Oo 24 (.load false 1 (.t 23)), Oo 25 (.len (.t 24)), Oo 26 (.bin .add (.t 25) (.k (.c (.int .i64 1)))), Oo 27 (.bin .ne (.t 20) (.t 26)), Oo 28 (.mv (.t 27)), Og 29 (.fadr 1 (.t 3)) 28 false, Og 30 (.load false 1 (.t 29)) 28 false, Og 31 (.call 132 [(.t 30)]) 28 false, Og 32 (.not (.t 31)) 28 false, Oo 33 (.pick (.t 28) (.k (.c (.bool true))) (.t 32))]
    (.fl 0 (.fl 1 (.fl 2 (.fl 3 (.fl 4 (.fl 5 (.fl 6 (.fl 7 (.fl 8 (.fl 9 (.fl 10 (.fl 11 (.ch 12 [] (.fl 13 (.fl 14 .done))))))))))))))) [0, 3, 33])
  (.cond (.t 33) (.seq (.reg [B 4 (.asg (.k (.c (.int .i64 3))))] [4])
  .ret)
  .skip))
  (.seq (.reg [B 35 (.mv (.t 0)), B 36 (.fadr 1 (.t 3)), B 37 (.load false 1 (.t 36)), B 38 (.call 133 [(.t 35), (.t 37)]), B 34 (.mv (.t 38)), B 39 (.extract 0 (.t 34)), B 40 (.extract 1 (.t 34)), B 5 (.alloc [.int .i64 0, .str [], .bool false, .sl 1 [] .nil]), Bn (.store 4 (.t 5) (.t 39)), B 6 (.asg (.t 40))] [0, 3, 6])
  (.seq (.seq (.reg [B 41 (.mv (.t 6)), B 42 (.bin .eq (.t 41) (.k (.c (.int .i64 0))))] [0, 3, 42])
  (.cond (.t 42) (.seq (.reg [B 4 (.asg (.k (.c (.int .i64 8))))] [4])
  .ret)
  .skip))
  (.regd [Oo 43 (.mv (.t 0)), Oo 44 (.slE 4), Oo 45 (.mv (.t 0)), Oo 46 (.nilck (.t 45)), Oo 47 (.fadr 0 (.t 46)), Oo 48 (.load false 1 (.t 47)), Oo 49 (.app 4 56 (.t 44) (.t 48)), Oo 50 (.fadr 2 (.t 3)), Oo 51 (.load false 1 (.t 50)), Oo 52 (.fadr 1 (.t 3)), Oo 53 (.load false 1 (.t 52)), Oo 54 (.build [.int .i64 0, .str [], .bool false, .sl 1 [] .nil] [(0, 1, (.t 51)), (1, 1, (.t 53))]), Oo 55 (.slR 4 1 [.int .i64 0, .str [], .bool false, .sl 1 [] .nil] [(0, 4, (.t 54))]), Oo 56 (.app 4 56 (.t 49) (.t 55)), Oo 57 (.nilck (.t 43)), Oo 58 (.fadr 0 (.t 57)), On (.store 1 (.t 58) (.t 56))]
    (.fl 0 (.fl 1 (.fl 2 (.fl 3 (.fl 4 (.fl 5 (.fl 7 (.fl 8 (.fl 9 (.fl 10 (.fl 11 (.fl 12 (.ch 6 [8, 10] (.ch 13 [] (.fl 14 (.fl 15 (.ch 16 [] .done))))))))))))))))) [])))))
  (.seq (.reg [B 60 (.bin .eq (.t 10) (.k (.c (.int .i64 6)))), B 59 (.asg (.t 60))] [0, 3, 10, 59])
  (.cond (.t 59) (.seq (.reg [B 61 (.mv (.t 0)), B 62 (.fadr 2 (.t 3)), B 63 (.load false 1 (.t 62)), B 64 (.call 81 [(.t 61), (.t 63)]), B 7 (.asg (.t 64))] [7])
  (.seq (.seq (.reg [B 65 (.mv (.t 7)), B 66 (.bin .eqnil (.t 65) (.k (.c (.nilp))))] [7, 66])
  (.cond (.t 66) (.seq (.reg [B 4 (.asg (.k (.c (.int .i64 7))))] [4])
  .ret)
  .skip))
  (.seq (.reg [B 67 (.mv (.t 7)), B 68 (.nilck (.t 67)), B 69 (.fadr 2 (.t 68)), Bn (.store 1 (.t 69) (.k (.c (.bool true))))] [7])
  (.reg [B 70 (.mv (.t 7)), B 71 (.nilck (.t 70)), B 72 (.fadr 3 (.t 71)), Bn (.store 1 (.t 72) (.k (.c (.sl 1 [] .nil))))] []))))
  (.seq (.reg [B 74 (.bin .eq (.t 10) (.k (.c (.int .i64 7)))), B 73 (.asg (.t 74))] [0, 3, 73])
  (.cond (.t 73) (.seq (.reg [B 75 (.mv (.t 0)), B 76 (.fadr 2 (.t 3)), B 77 (.load false 1 (.t 76)), B 78 (.call 81 [(.t 75), (.t 77)]), B 8 (.asg (.t 78))] [0, 3, 8])
  (.seq (.seq (.reg [B 79 (.mv (.t 8)), B 80 (.bin .eqnil (.t 79) (.k (.c (.nilp))))] [0, 3, 8, 80])
  (.cond (.t 80) (.seq (.reg [B 4 (.asg (.k (.c (.int .i64 7))))] [4])
  .ret)
  .skip))
  (.seq (.seq (.reg [B 81 (.fadr 1 (.t 3)), B 82 (.load false 1 (.t 81)), B 83 (.call 132 [(.t 82)]), B 84 (.not (.t 83))] [0, 3, 8, 84])
  (.cond (.t 84) (.seq (.reg [B 4 (.asg (.k (.c (.int .i64 3))))] [4])
  .ret)
  .skip))
  (.seq (.seq (.reg [B 85 (.mv (.t 0)), B 86 (.fadr 2 (.t 3)), B 87 (.load false 1 (.t 86)), B 88 (.fadr 1 (.t 3)), B 89 (.load false 1 (.t 88)), B 90 (.call 40 [(.t 85), (.t 87), (.t 89)])] [3, 8, 90])
  (.cond (.t 90) (.seq (.reg [B 4 (.asg (.k (.c (.int .i64 8))))] [4])
  .ret)
  .skip))
  (.seq (.seq (.reg [B 91 (.mv (.t 8)), B 92 (.nilck (.t 91)), B 93 (.fadr 3 (.t 92)), B 94 (.load false 1 (.t 93)), B 95 (.len (.t 94)), B 96 (.bin .ge (.t 95) (.k (.c (.int .i64 16))))] [3, 8, 96])
  (.cond (.t 96) (.seq (.reg [B 4 (.asg (.k (.c (.int .i64 17))))] [4])
  .ret)
  .skip))
  (.regd [Oo 97 (.mv (.t 8)), Oo 98 (.slE 1), Oo 99 (.mv (.t 8)), Oo 100 (.nilck (.t 99)), Oo 101 (.fadr 3 (.t 100)), Oo 102 (.load false 1 (.t 101)), Oo 103 (.app 1 16 (.t 98) (.t 102)), Oo 104 (.fadr 1 (.t 3)), Oo 105 (.load false 1 (.t 104)), Oo 106 (.slR 1 1 [.str []] [(0, 1, (.t 105))]), Oo 107 (.app 1 16 (.t 103) (.t 106)), Oo 108 (.nilck (.t 97)), Oo 109 (.fadr 3 (.t 108)), On (.store 1 (.t 109) (.t 107))]
    (.fl 0 (.fl 1 (.fl 2 (.fl 3 (.fl 4 (.fl 5 (.fl 7 (.fl 8 (.fl 9 (.ch 6 [8] (.ch 10 [] (.fl 11 (.fl 12 (.ch 13 [] .done)))))))))))))) []))))))
  .skip))))))))
  (.seq (.reg [B 4 (.asg (.k (.c (.int .i64 0))))] [4])
  .ret)))
def r99 : List ARes := [.tmp 4]
theorem k99 : bChk Tryz.prog 99 Tryz.f99 2 c99 r99 = true := by kernel_rfl
theorem p99 : Tryz.prog.funcs[99]? = some Tryz.f99 := by kernel_rfl

/-- (*scrivener/scrivenerref15.Views).last -/
def c100 : BCode :=
  (.seq (.reg [B 6 (.asg (.k (.c (.int .i64 0))))] [0, 1, 2])
  (.seq (.seq (.reg [B 8 (.mv (.t 0)), B 9 (.nilck (.t 8)), B 10 (.fadr 1 (.t 9)), B 11 (.load false 1 (.t 10)), B 12 (.len (.t 11)), B 13 (.bin .sub (.t 12) (.k (.c (.int .i64 1)))), B 7 (.asg (.t 13))] [0, 1, 2, 7])
  (.block 0 (.loop (.seq (.seq (.reg [B 14 (.mv (.t 7)), B 15 (.bin .ge (.t 14) (.k (.c (.int .i64 0))))] [0, 1, 2, 7, 15])
  (.cond (.t 15) .skip
  (.exit 0)))
  (.seq (.block 1 (.seq (.reg [B 18 (.mv (.t 0)), B 19 (.nilck (.t 18)), B 20 (.fadr 1 (.t 19)), B 21 (.load false 1 (.t 20)), B 22 (.mv (.t 7)), B 23 (.iadr 14 (.t 21) (.t 22)), B 24 (.fadr 0 (.t 23)), B 25 (.load false 1 (.t 24)), B 26 (.mv (.t 1)), B 27 (.bin .eq (.t 25) (.t 26)), B 28 (.mv (.t 27)), Bg 29 (.mv (.t 0)) 28 true, Bg 30 (.nilck (.t 29)) 28 true, Bg 31 (.fadr 1 (.t 30)) 28 true, Bg 32 (.load false 1 (.t 31)) 28 true, Bg 33 (.mv (.t 7)) 28 true, Bg 34 (.iadr 14 (.t 32) (.t 33)) 28 true, Bg 35 (.fadr 1 (.t 34)) 28 true, Bg 36 (.load false 1 (.t 35)) 28 true, Bg 37 (.mv (.t 2)) 28 true, Bg 38 (.bin .eq (.t 36) (.t 37)) 28 true, B 39 (.pick (.t 28) (.t 38) (.k (.c (.bool false))))] [0, 1, 2, 7, 39])
  (.cond (.t 39) (.seq (.reg [B 40 (.mv (.t 7)), B 6 (.asg (.t 40))] [6])
  .ret)
  .skip)))
  (.reg [B 16 (.mv (.t 7)), B 17 (.bin .sub (.t 16) (.k (.c (.int .i64 1)))), B 7 (.asg (.t 17))] [0, 1, 2, 7]))))))
  (.seq (.reg [B 6 (.asg (.k (.c (.int .i64 (-1)))))] [6])
  .ret)))
def r100 : List ARes := [.tmp 6]
theorem k100 : bChk Tryz.prog 100 Tryz.f100 3 c100 r100 = true := by kernel_rfl
theorem p100 : Tryz.prog.funcs[100]? = some Tryz.f100 := by kernel_rfl

/-- scrivener/catalog.own -/
def c101 : BCode :=
  (.seq (.reg [B 1 (.box (.t 0)), B 2 (.alloc [.int .i64 0, .str [], .bool false, .sl 1 [] .nil])] [1, 2])
  (.seq (.reg [B 3 (.fadr 3 (.t 1)), B 4 (.load false 1 (.t 3)), B 5 (.call 134 [(.t 4)]), B 6 (.fadr 3 (.t 1)), Bn (.store 1 (.t 6) (.t 5))] [1, 2])
  (.seq (.reg [B 7 (.load true 4 (.t 1)), Bn (.store 4 (.t 2) (.t 7))] [2])
  .ret)))
def r101 : List ARes := [.cell 2 true 4]
theorem k101 : bChk Tryz.prog 101 Tryz.f101 1 c101 r101 = true := by kernel_rfl
theorem p101 : Tryz.prog.funcs[101]? = some Tryz.f101 := by kernel_rfl

/-- scrivener/scrivenerref15.own -/
def c102 : BCode :=
  (.seq (.reg [B 1 (.box (.t 0)), B 2 (.alloc [.int .i64 0, .int .i64 0, .int .i64 0, .int .i64 0, .int .i64 0, .int .i64 0, .str [], .sl 1 [] .nil, .sl 6 [] .nil, .bool false, .bool false, .int .i64 0, .int .i64 0, .int .i64 0])] [1, 2])
  (.seq (.reg [B 3 (.fadr 3 (.t 1)), B 4 (.load true 6 (.t 3)), B 5 (.call 64 [(.t 4)]), B 6 (.fadr 3 (.t 1)), Bn (.store 6 (.t 6) (.t 5))] [1, 2])
  (.seq (.reg [B 7 (.load true 14 (.t 1)), Bn (.store 14 (.t 2) (.t 7))] [2])
  .ret)))
def r102 : List ARes := [.cell 2 true 14]
theorem k102 : bChk Tryz.prog 102 Tryz.f102 1 c102 r102 = true := by kernel_rfl
theorem p102 : Tryz.prog.funcs[102]? = some Tryz.f102 := by kernel_rfl

/-- maps.Clone[map[scrivener/catalog.key]bool,scrivener/catalog.key,bool] -/
def c103 : BCode :=
  (.seq (.reg [B 2 (.asg (.k (.c (.nilmap))))] [0])
  (.seq (.seq (.reg [B 3 (.mv (.t 0)), B 4 (.bin .eqnil (.t 3) (.k (.c (.nilmap))))] [0, 4])
  (.cond (.t 4) (.seq (.reg [B 2 (.asg (.k (.c (.nilmap))))] [2])
  .ret)
  .skip))
  (.seq (.reg [B 5 (.mv (.t 0)), B 6 (.mkif 166 (.t 5)), B 7 (.mclone (.t 6)), B 8 (.tas 166 (.t 7)), B 2 (.asg (.t 8))] [2])
  .ret)))
def r103 : List ARes := [.tmp 2]
theorem k103 : bChk Tryz.prog 103 Tryz.f103 1 c103 r103 = true := by kernel_rfl
theorem p103 : Tryz.prog.funcs[103]? = some Tryz.f103 := by kernel_rfl

/-- (*scrivener/catalog.Catalog).there -/
def c105 : BCode :=
  (.seq (.reg [B 4 (.asg (.k (.c (.bool false))))] [0, 1])
  (.seq (.reg [B 5 (.mv (.t 0)), B 6 (.bin .nenil (.t 5) (.k (.c (.nilp)))), B 7 (.mv (.t 6)), Bg 8 (.mv (.t 1)) 7 true, Bg 9 (.bin .ge (.t 8) (.k (.c (.int .i64 1)))) 7 true, B 10 (.pick (.t 7) (.t 9) (.k (.c (.bool false)))), B 11 (.mv (.t 10)), Bg 12 (.mv (.t 1)) 11 true, Bg 13 (.mv (.t 0)) 11 true, Bg 14 (.nilck (.t 13)) 11 true, Bg 15 (.fadr 0 (.t 14)) 11 true, Bg 16 (.load false 1 (.t 15)) 11 true, Bg 17 (.len (.t 16)) 11 true, Bg 18 (.bin .le (.t 12) (.t 17)) 11 true, B 19 (.pick (.t 11) (.t 18) (.k (.c (.bool false)))), B 20 (.mv (.t 19)), Bg 21 (.mv (.t 0)) 20 true, Bg 22 (.nilck (.t 21)) 20 true, Bg 23 (.fadr 1 (.t 22)) 20 true, Bg 24 (.load false 1 (.t 23)) 20 true, Bg 25 (.mv (.t 1)) 20 true, Bg 26 (.bin .sub (.t 25) (.k (.c (.int .i64 1)))) 20 true, Bg 27 (.conv .u64 (.t 26)) 20 true, Bg 28 (.bin .shr (.t 24) (.t 27)) 20 true, Bg 29 (.bin .and (.t 28) (.k (.c (.int .u64 1)))) 20 true, Bg 30 (.bin .eq (.t 29) (.k (.c (.int .u64 0)))) 20 true, B 31 (.pick (.t 20) (.t 30) (.k (.c (.bool false)))), B 4 (.asg (.t 31))] [4])
  .ret))
def r105 : List ARes := [.tmp 4]
theorem k105 : bChk Tryz.prog 105 Tryz.f105 2 c105 r105 = true := by kernel_rfl
theorem p105 : Tryz.prog.funcs[105]? = some Tryz.f105 := by kernel_rfl

/-- scrivener/value.Check -/
def c111 : BCode :=
  (.seq (.reg [B 1 (.boxR (.t 0)), B 2 (.asg (.k (.c (.int .i64 0))))] [1])
  (.seq (.reg [B 3 (.load true 6 (.t 1)), B 4 (.call 142 [(.t 3), (.k (.c (.int .i64 1)))]), B 2 (.asg (.t 4))] [2])
  .ret))
def r111 : List ARes := [.tmp 2]
theorem k111 : bChk Tryz.prog 111 Tryz.f111 1 c111 r111 = true := by kernel_rfl
theorem p111 : Tryz.prog.funcs[111]? = some Tryz.f111 := by kernel_rfl

/-- scrivener/scrivenerref7.Encode -/
def c117 : BCode :=
  (.seq (.reg [B 1 (.boxR (.t 0)), B 2 (.asg (.k (.c (.sl 1 [] .nil)))), B 3 (.asg (.k (.c (.int .i64 0))))] [1])
  (.seq (.reg [B 7 (.load true 6 (.t 1)), B 8 (.call 41 [(.t 7)]), B 4 (.asg (.t 8))] [1, 4])
  (.seq (.seq (.reg [B 9 (.mv (.t 4)), B 10 (.bin .ne (.t 9) (.k (.c (.int .i64 0))))] [1, 4, 10])
  (.cond (.t 10) (.seq (.reg [B 11 (.mv (.t 4)), B 2 (.asg (.k (.c (.sl 1 [] .nil)))), B 3 (.asg (.t 11))] [2, 3])
  .ret)
  .skip))
  (.seq (.reg [B 5 (.alloc [.int .i64 0]), Bn (.store 1 (.t 5) (.k (.c (.int .i64 0))))] [1, 5])
  (.seq (.seq (.reg [B 12 (.load true 6 (.t 1)), B 13 (.call 153 [(.t 12), (.t 5)])] [1, 13])
  (.cond (.t 13) (.seq (.reg [B 2 (.asg (.k (.c (.sl 1 [] .nil)))), B 3 (.asg (.k (.c (.int .i64 5))))] [2, 3])
  .ret)
  .skip))
  (.seq (.reg [B 14 (.load true 6 (.t 1)), B 15 (.call 154 [(.k (.c (.sl 1 [] .nil))), (.t 14)]), B 6 (.asg (.t 15))] [6])
  (.seq (.seq (.reg [B 16 (.mv (.t 6)), B 17 (.len (.t 16)), B 18 (.bin .gt (.t 17) (.k (.c (.int .i64 65536))))] [6, 18])
  (.cond (.t 18) (.seq (.reg [B 2 (.asg (.k (.c (.sl 1 [] .nil)))), B 3 (.asg (.k (.c (.int .i64 5))))] [2, 3])
  .ret)
  .skip))
  (.seq (.reg [B 19 (.mv (.t 6)), B 2 (.asg (.t 19)), B 3 (.asg (.k (.c (.int .i64 0))))] [2, 3])
  .ret))))))))
def r117 : List ARes := [.tmp 2, .tmp 3]
theorem k117 : bChk Tryz.prog 117 Tryz.f117 1 c117 r117 = true := by kernel_rfl
theorem p117 : Tryz.prog.funcs[117]? = some Tryz.f117 := by kernel_rfl

/-- scrivener/scrivenerref2.Leaf -/
def c118 : BCode :=
  (.seq (.reg [B 2 (.alloc [.int .u8 0, .int .u8 0, .int .u8 0, .int .u8 0, .int .u8 0, .int .u8 0, .int .u8 0, .int .u8 0, .int .u8 0, .int .u8 0, .int .u8 0, .int .u8 0, .int .u8 0, .int .u8 0, .int .u8 0, .int .u8 0, .int .u8 0, .int .u8 0, .int .u8 0, .int .u8 0, .int .u8 0, .int .u8 0, .int .u8 0, .int .u8 0, .int .u8 0, .int .u8 0, .int .u8 0, .int .u8 0, .int .u8 0, .int .u8 0, .int .u8 0, .int .u8 0])] [0, 2])
  (.seq (.reg [B 3 (.slR 1 1 [.int .u8 0] [(0, 1, (.k (.c (.int .u8 0))))]), B 4 (.mv (.t 0)), B 5 (.app 1 1 (.t 3) (.t 4)), B 6 (.call 155 [(.t 5)]), Bn (.store 32 (.t 2) (.t 6))] [2])
  .ret))
def r118 : List ARes := [.cell 2 true 32]
theorem k118 : bChk Tryz.prog 118 Tryz.f118 1 c118 r118 = true := by kernel_rfl
theorem p118 : Tryz.prog.funcs[118]? = some Tryz.f118 := by kernel_rfl

/-- scrivener/block.shape -/
def c119 : BCode :=
  (.seq (.reg [B 1 (.boxR (.t 0)), B 2 (.asg (.k (.c (.bool false))))] [1])
  (.seq (.reg [B 6 (.fadr 2 (.t 1)), B 7 (.load false 1 (.t 6)), B 8 (.call 88 [(.t 7), (.k (.c (.int .i64 1))), (.k (.c (.int .i64 64)))]), B 3 (.asg (.t 8))] [1, 3])
  (.seq (.reg [B 9 (.load true 46 (.t 1)), B 4 (.alloc [.int .i64 0, .str [], .int .i64 0, .int .i64 0, .int .i64 0, .int .i64 0, .int .i64 0, .int .i64 0, .str [], .sl 1 [] .nil, .sl 6 [] .nil, .int .u8 0, .int .u8 0, .int .u8 0, .int .u8 0, .int .u8 0, .int .u8 0, .int .u8 0, .int .u8 0, .int .u8 0, .int .u8 0, .int .u8 0, .int .u8 0, .int .u8 0, .int .u8 0, .int .u8 0, .int .u8 0, .int .u8 0, .int .u8 0, .int .u8 0, .int .u8 0, .int .u8 0, .int .u8 0, .int .u8 0, .int .u8 0, .int .u8 0, .int .u8 0, .int .u8 0, .int .u8 0, .int .u8 0, .int .u8 0, .int .u8 0, .int .u8 0, .bool false, .int .i64 0, .int .i64 0]), Bn (.store 46 (.t 4) (.t 9))] [1, 3, 4])
  (.seq (.seq (.reg [B 10 (.fadr 0 (.t 1)), B 11 (.load false 1 (.t 10))] [1, 3, 4, 11])
  (.block 0 (.seq (.reg [B 13 (.bin .eq (.t 11) (.k (.c (.int .i64 1)))), B 12 (.asg (.t 13))] [1, 3, 4, 11, 12])
  (.cond (.t 12) (.seq (.reg [B 14 (.fadr 1 (.t 4)), Bn (.store 1 (.t 14) (.k (.c (.str []))))] [1, 4])
  (.seq (.reg [B 15 (.fadr 1 (.t 1)), B 16 (.load false 1 (.t 15)), B 17 (.slen (.t 16)), B 18 (.call 88 [(.t 17), (.k (.c (.int .i64 1))), (.k (.c (.int .i64 4096)))]), B 19 (.mv (.t 18)), Bg 20 (.load true 46 (.t 4)) 19 true, Bg 21 (.call 156 [(.t 20)]) 19 true, B 22 (.pick (.t 19) (.t 21) (.k (.c (.bool false)))), B 2 (.asg (.t 22))] [2])
  .ret))
  (.seq (.seq (.reg [B 24 (.bin .eq (.t 11) (.k (.c (.int .i64 2)))), B 23 (.asg (.t 24))] [1, 3, 4, 11, 23])
  (.cond (.t 23) .skip
  (.reg [B 25 (.bin .eq (.t 11) (.k (.c (.int .i64 3)))), B 23 (.asg (.t 25))] [1, 3, 4, 11, 23])))
  (.cond (.t 23) (.seq (.reg [B 5 (.asg (.k (.c (.int .i64 0))))] [1, 3, 4, 5])
  (.seq (.seq (.reg [B 26 (.fadr 0 (.t 1)), B 27 (.load false 1 (.t 26)), B 28 (.bin .eq (.t 27) (.k (.c (.int .i64 3))))] [1, 3, 4, 5, 28])
  (.cond (.t 28) (.reg [B 5 (.asg (.k (.c (.int .i64 1))))] [1, 3, 4, 5])
  (.reg [B 29 (.build [.int .i64 0, .int .i64 0, .int .i64 0, .str [], .sl 1 [] .nil, .sl 6 [] .nil] []), B 30 (.build [.int .u8 0, .int .u8 0, .int .u8 0, .int .u8 0, .int .u8 0, .int .u8 0, .int .u8 0, .int .u8 0, .int .u8 0, .int .u8 0, .int .u8 0, .int .u8 0, .int .u8 0, .int .u8 0, .int .u8 0, .int .u8 0, .int .u8 0, .int .u8 0, .int .u8 0, .int .u8 0, .int .u8 0, .int .u8 0, .int .u8 0, .int .u8 0, .int .u8 0, .int .u8 0, .int .u8 0, .int .u8 0, .int .u8 0, .int .u8 0, .int .u8 0, .int .u8 0] []), B 31 (.fadr 5 (.t 4)), Bn (.store 6 (.t 31) (.t 29)), B 32 (.fadr 11 (.t 4)), Bn (.store 32 (.t 32) (.t 30)), B 33 (.fadr 43 (.t 4)), Bn (.store 1 (.t 33) (.k (.c (.bool false))))] [1, 3, 4, 5])))
  (.seq (.reg [B 34 (.fadr 2 (.t 4)), Bn (.store 1 (.t 34) (.k (.c (.int .i64 0)))), B 35 (.fadr 3 (.t 4)), Bn (.store 1 (.t 35) (.k (.c (.int .i64 0)))), B 36 (.fadr 4 (.t 4)), Bn (.store 1 (.t 36) (.k (.c (.int .i64 0))))] [1, 3, 4, 5])
  (.seq (.reg [B 37 (.mv (.t 3)), B 38 (.mv (.t 37)), Bg 39 (.fadr 3 (.t 1)) 38 true, Bg 40 (.load false 1 (.t 39)) 38 true, Bg 41 (.call 88 [(.t 40), (.k (.c (.int .i64 1))), (.k (.c (.int .i64 65536)))]) 38 true, B 42 (.pick (.t 38) (.t 41) (.k (.c (.bool false)))), B 43 (.mv (.t 42)), Bg 44 (.fadr 4 (.t 1)) 43 true, Bg 45 (.load false 1 (.t 44)) 43 true, Bg 46 (.mv (.t 5)) 43 true, Bg 47 (.call 88 [(.t 45), (.t 46), (.k (.c (.int .i64 2147483648)))]) 43 true, B 48 (.pick (.t 43) (.t 47) (.k (.c (.bool false)))), B 49 (.mv (.t 48)), Bg 50 (.load true 46 (.t 4)) 49 true, Bg 51 (.call 156 [(.t 50)]) 49 true, B 52 (.pick (.t 49) (.t 51) (.k (.c (.bool false)))), B 53 (.mv (.t 52)), Bg 54 (.fadr 43 (.t 1)) 53 true, Bg 55 (.load false 1 (.t 54)) 53 true, Bg 56 (.not (.t 55)) 53 true, Bg 57 (.mv (.t 56)) 53 true, Bg 58 (.fadr 5 (.t 1)) 57 false, Bg 59 (.load true 6 (.t 58)) 57 false, Bg 60 (.call 157 [(.t 59)]) 57 false, Bg 61 (.pick (.t 57) (.k (.c (.bool true))) (.t 60)) 53 true, B 62 (.pick (.t 53) (.t 61) (.k (.c (.bool false)))), B 2 (.asg (.t 62))] [2])
  .ret))))
  (.seq (.reg [B 64 (.bin .eq (.t 11) (.k (.c (.int .i64 4)))), B 63 (.asg (.t 64))] [1, 3, 4, 11, 63])
  (.cond (.t 63) (.seq (.reg [B 65 (.build [.int .i64 0, .int .i64 0] []), B 66 (.fadr 44 (.t 4)), Bn (.store 2 (.t 66) (.t 65))] [1, 4])
  (.seq (.reg [B 67 (.fadr 44 (.t 1)), B 68 (.fadr 0 (.t 67)), B 69 (.load false 1 (.t 68)), B 70 (.call 88 [(.t 69), (.k (.c (.int .i64 0))), (.k (.c (.int .i64 2147483648)))]), B 71 (.mv (.t 70)), Bg 72 (.fadr 44 (.t 1)) 71 true, Bg 73 (.fadr 1 (.t 72)) 71 true, Bg 74 (.load false 1 (.t 73)) 71 true, Bg 75 (.call 88 [(.t 74), (.k (.c (.int .i64 0))), (.k (.c (.int .i64 2147483648)))]) 71 true, B 76 (.pick (.t 71) (.t 75) (.k (.c (.bool false)))), B 77 (.mv (.t 76)), Bg 78 (.load true 46 (.t 4)) 77 true, Bg 79 (.call 156 [(.t 78)]) 77 true, B 80 (.pick (.t 77) (.t 79) (.k (.c (.bool false)))), B 2 (.asg (.t 80))] [2])
  .ret))
  (.seq (.seq (.reg [B 82 (.bin .eq (.t 11) (.k (.c (.int .i64 5)))), B 81 (.asg (.t 82))] [1, 3, 4, 11, 81])
  (.cond (.t 81) .skip
  (.reg [B 83 (.bin .eq (.t 11) (.k (.c (.int .i64 7)))), B 81 (.asg (.t 83))] [1, 3, 4, 11, 81])))
  (.cond (.t 81) (.seq (.reg [B 84 (.fadr 2 (.t 4)), Bn (.store 1 (.t 84) (.k (.c (.int .i64 0)))), B 85 (.fadr 1 (.t 4)), Bn (.store 1 (.t 85) (.k (.c (.str []))))] [1, 3, 4])
  (.seq (.reg [B 86 (.mv (.t 3)), B 87 (.mv (.t 86)), Bg 88 (.fadr 1 (.t 1)) 87 true, Bg 89 (.load false 1 (.t 88)) 87 true, Bg 90 (.slen (.t 89)) 87 true, Bg 91 (.call 88 [(.t 90), (.k (.c (.int .i64 1))), (.k (.c (.int .i64 40)))]) 87 true, B 92 (.pick (.t 87) (.t 91) (.k (.c (.bool false)))), B 93 (.mv (.t 92)), Bg 94 (.load true 46 (.t 4)) 93 true, Bg 95 (.call 156 [(.t 94)]) 93 true, B 96 (.pick (.t 93) (.t 95) (.k (.c (.bool false)))), B 2 (.asg (.t 96))] [2])
  .ret))
  (.seq (.reg [B 98 (.bin .eq (.t 11) (.k (.c (.int .i64 6)))), B 97 (.asg (.t 98))] [3, 4, 97])
  (.cond (.t 97) (.seq (.reg [B 99 (.fadr 2 (.t 4)), Bn (.store 1 (.t 99) (.k (.c (.int .i64 0))))] [3, 4])
  (.seq (.reg [B 100 (.mv (.t 3)), B 101 (.mv (.t 100)), Bg 102 (.load true 46 (.t 4)) 101 true, Bg 103 (.call 156 [(.t 102)]) 101 true, B 104 (.pick (.t 101) (.t 103) (.k (.c (.bool false)))), B 2 (.asg (.t 104))] [2])
  .ret))
  .skip))))))))))))
  (.seq (.reg [B 2 (.asg (.k (.c (.bool false))))] [2])
  .ret)))))
def r119 : List ARes := [.tmp 2]
theorem k119 : bChk Tryz.prog 119 Tryz.f119 1 c119 r119 = true := by kernel_rfl
theorem p119 : Tryz.prog.funcs[119]? = some Tryz.f119 := by kernel_rfl

/-- scrivener/codec.Hash -/
def c120 : BCode :=
  (.seq (.reg [B 1 (.boxR (.t 0)), B 2 (.alloc [.int .u8 0, .int .u8 0, .int .u8 0, .int .u8 0, .int .u8 0, .int .u8 0, .int .u8 0, .int .u8 0, .int .u8 0, .int .u8 0, .int .u8 0, .int .u8 0, .int .u8 0, .int .u8 0, .int .u8 0, .int .u8 0, .int .u8 0, .int .u8 0, .int .u8 0, .int .u8 0, .int .u8 0, .int .u8 0, .int .u8 0, .int .u8 0, .int .u8 0, .int .u8 0, .int .u8 0, .int .u8 0, .int .u8 0, .int .u8 0, .int .u8 0, .int .u8 0]), B 3 (.asg (.k (.c (.int .i64 0))))] [1, 2])
  (.seq (.reg [B 7 (.load true 6 (.t 1)), B 8 (.call 124 [(.t 7)]), B 6 (.mv (.t 8)), B 9 (.extract 0 (.t 6)), B 10 (.extract 1 (.t 6)), B 4 (.asg (.t 9)), B 5 (.asg (.t 10))] [2, 4, 5])
  (.seq (.seq (.reg [B 11 (.mv (.t 5)), B 12 (.bin .ne (.t 11) (.k (.c (.int .i64 0))))] [2, 4, 5, 12])
  (.cond (.t 12) (.seq (.reg [B 13 (.build [.int .u8 0, .int .u8 0, .int .u8 0, .int .u8 0, .int .u8 0, .int .u8 0, .int .u8 0, .int .u8 0, .int .u8 0, .int .u8 0, .int .u8 0, .int .u8 0, .int .u8 0, .int .u8 0, .int .u8 0, .int .u8 0, .int .u8 0, .int .u8 0, .int .u8 0, .int .u8 0, .int .u8 0, .int .u8 0, .int .u8 0, .int .u8 0, .int .u8 0, .int .u8 0, .int .u8 0, .int .u8 0, .int .u8 0, .int .u8 0, .int .u8 0, .int .u8 0] []), B 14 (.mv (.t 5)), Bn (.store 32 (.t 2) (.t 13)), B 3 (.asg (.t 14))] [2, 3])
  .ret)
  .skip))
  (.seq (.reg [B 15 (.mv (.t 4)), B 16 (.call 158 [(.t 15)]), Bn (.store 32 (.t 2) (.t 16)), B 3 (.asg (.k (.c (.int .i64 0))))] [2, 3])
  .ret))))
def r120 : List ARes := [.cell 2 true 32, .tmp 3]
theorem k120 : bChk Tryz.prog 120 Tryz.f120 1 c120 r120 = true := by kernel_rfl
theorem p120 : Tryz.prog.funcs[120]? = some Tryz.f120 := by kernel_rfl

/-- scrivener/block.head -/
def c121 : BCode :=
  (.seq (.reg [B 1 (.boxR (.t 0)), B 2 (.asg (.k (.c (.sl 1 [] .nil))))] [1])
  (.seq (.regd [Oo 3 (.fadr 0 (.t 1)), Oo 4 (.load false 1 (.t 3)), Oo 5 (.call 122 [(.k (.c (.sl 1 [] .nil))), (.t 4)]), Oo 6 (.fadr 1 (.t 1)), Oo 7 (.load false 1 (.t 6)), Oo 8 (.call 122 [(.t 5), (.t 7)]), Oo 9 (.fadr 2 (.t 1)), Oo 10 (.load false 1 (.t 9)), Oo 11 (.call 122 [(.t 8), (.t 10)]), Oo 12 (.fadr 3 (.t 1)), Oo 13 (.aslice 1 32 (.t 12)), Oo 14 (.app 1 1 (.t 11) (.t 13)), Oo 2 (.asg (.t 14))]
    (.fl 0 (.fl 1 (.fl 3 (.fl 4 (.fl 6 (.fl 7 (.fl 9 (.fl 10 (.ch 2 [4, 7] (.ch 5 [7] (.ch 8 [] (.ch 11 [] (.ch 12 [] .done))))))))))))) [2])
  .ret))
def r121 : List ARes := [.tmp 2]
theorem k121 : bChk Tryz.prog 121 Tryz.f121 1 c121 r121 = true := by kernel_rfl
theorem p121 : Tryz.prog.funcs[121]? = some Tryz.f121 := by kernel_rfl

/-- scrivener/block.number -/
def c122 : BCode :=
  (.seq (.reg [B 4 (.asg (.k (.c (.sl 1 [] .nil))))] [0, 1])
  (.seq (.reg [B 5 (.mv (.t 0)), B 6 (.mv (.t 1)), B 7 (.mm true (.k (.c (.int .i64 0))) (.t 6)), B 8 (.conv .u64 (.t 7)), B 9 (.call 159 [(.t 8)]), B 10 (.app 1 1 (.t 5) (.t 9)), B 4 (.asg (.t 10))] [4])
  .ret))
def r122 : List ARes := [.tmp 4]
theorem k122 : bChk Tryz.prog 122 Tryz.f122 2 c122 r122 = true := by kernel_rfl
theorem p122 : Tryz.prog.funcs[122]? = some Tryz.f122 := by kernel_rfl

/-- scrivener/block.layEntry -/
def c123 : BCode :=
  (.seq (.reg [B 3 (.boxR (.t 1)), B 4 (.asg (.k (.c (.sl 1 [] .nil))))] [0, 3])
  (.seq (.reg [B 7 (.mv (.t 0)), B 8 (.fadr 0 (.t 3)), B 9 (.load false 1 (.t 8)), B 10 (.conv .u8 (.t 9)), B 11 (.slR 1 1 [.int .u8 0] [(0, 1, (.t 10))]), B 12 (.app 1 1 (.t 7) (.t 11)), B 0 (.asg (.t 12))] [0, 3])
  (.seq (.seq (.reg [B 13 (.fadr 2 (.t 3)), B 14 (.load false 1 (.t 13)), B 15 (.fadr 3 (.t 3)), B 16 (.load false 1 (.t 15)), B 17 (.fadr 4 (.t 3)), B 18 (.load false 1 (.t 17)), B 19 (.fadr 1 (.t 3)), B 20 (.load false 1 (.t 19)), B 21 (.slen (.t 20)), B 22 (.build [.int .i64 0, .int .i64 0, .int .i64 0, .int .i64 0] [(0, 1, (.t 14)), (1, 1, (.t 16)), (2, 1, (.t 18)), (3, 1, (.t 21))]), B 23 (.mv (.k (.c (.int .i64 0))))] [0, 3, 22, 23])
  (.block 0 (.loop (.seq (.reg [B 24 (.bin .lt (.t 23) (.k (.c (.int .i64 4))))] [0, 3, 22, 23, 24])
  (.seq (.cond (.t 24) .skip
  (.exit 0))
  (.seq (.block 1 (.seq (.reg [B 25 (.idx false 4 1 (.t 22) (.t 23)), B 6 (.asg (.t 25))] [0, 3, 6, 22, 23])
  (.reg [B 26 (.mv (.t 0)), B 27 (.mv (.t 6)), B 28 (.call 122 [(.t 26), (.t 27)]), B 0 (.asg (.t 28))] [0, 3, 22, 23])))
  (.reg [B 29 (.bin .add (.t 23) (.k (.c (.int .i64 1)))), B 23 (.mv (.t 29))] [0, 3, 22, 23])))))))
  (.seq (.regd [Oo 30 (.mv (.t 0)), Oo 31 (.fadr 1 (.t 3)), Oo 32 (.load false 1 (.t 31)), Oo 33 (.app 1 1 (.t 30) (.t 32)), Oo 34 (.fadr 44 (.t 3)), Oo 35 (.fadr 0 (.t 34)), Oo 36 (.load false 1 (.t 35)), Oo 37 (.call 122 [(.t 33), (.t 36)]), Oo 38 (.fadr 44 (.t 3)), Oo 39 (.fadr 1 (.t 38)), Oo 40 (.load false 1 (.t 39)), Oo 41 (.call 122 [(.t 37), (.t 40)]), Oo 0 (.asg (.t 41))]
    (.fl 0 (.fl 1 (.fl 2 (.fl 4 (.fl 5 (.fl 6 (.fl 8 (.fl 9 (.fl 10 (.ch 3 [6, 10] (.ch 7 [10] (.ch 11 [] (.ch 12 [] .done))))))))))))) [0, 3])
  (.seq (.seq (.reg [B 42 (.fadr 0 (.t 3)), B 43 (.load false 1 (.t 42)), B 44 (.bin .eq (.t 43) (.k (.c (.int .i64 2))))] [0, 3, 44])
  (.cond (.t 44) (.reg [B 45 (.mv (.t 0)), B 46 (.fadr 11 (.t 3)), B 47 (.aslice 1 32 (.t 46)), B 48 (.app 1 1 (.t 45) (.t 47)), B 0 (.asg (.t 48))] [0])
  .skip))
  (.seq (.reg [B 49 (.mv (.t 0)), B 4 (.asg (.t 49))] [4])
  .ret))))))
def r123 : List ARes := [.tmp 4]
theorem k123 : bChk Tryz.prog 123 Tryz.f123 2 c123 r123 = true := by kernel_rfl
theorem p123 : Tryz.prog.funcs[123]? = some Tryz.f123 := by kernel_rfl

/-- scrivener/codec.Encode -/
def c124 : BCode :=
  (.seq (.reg [B 1 (.boxR (.t 0)), B 2 (.asg (.k (.c (.sl 1 [] .nil)))), B 3 (.asg (.k (.c (.int .i64 0))))] [1])
  (.seq (.seq (.reg [B 6 (.load true 6 (.t 1)), B 7 (.call 111 [(.t 6)]), B 4 (.asg (.t 7))] [1, 4])
  (.seq (.reg [B 8 (.mv (.t 4)), B 9 (.bin .ne (.t 8) (.k (.c (.int .i64 0))))] [1, 4, 9])
  (.cond (.t 9) (.seq (.reg [B 10 (.mv (.t 4)), B 2 (.asg (.k (.c (.sl 1 [] .nil)))), B 3 (.asg (.t 10))] [2, 3])
  .ret)
  .skip)))
  (.seq (.reg [B 11 (.load true 6 (.t 1)), B 12 (.call 160 [(.k (.c (.sl 1 [] .nil))), (.t 11)]), B 5 (.asg (.t 12))] [5])
  (.seq (.seq (.reg [B 13 (.mv (.t 5)), B 14 (.len (.t 13)), B 15 (.bin .gt (.t 14) (.k (.c (.int .i64 65536))))] [5, 15])
  (.cond (.t 15) (.seq (.reg [B 2 (.asg (.k (.c (.sl 1 [] .nil)))), B 3 (.asg (.k (.c (.int .i64 5))))] [2, 3])
  .ret)
  .skip))
  (.seq (.reg [B 16 (.mv (.t 5)), B 2 (.asg (.t 16)), B 3 (.asg (.k (.c (.int .i64 0))))] [2, 3])
  .ret)))))
def r124 : List ARes := [.tmp 2, .tmp 3]
theorem k124 : bChk Tryz.prog 124 Tryz.f124 1 c124 r124 = true := by kernel_rfl
theorem p124 : Tryz.prog.funcs[124]? = some Tryz.f124 := by kernel_rfl

/-- slices.Clone[[]string,string] -/
def c125 : BCode :=
  (.seq (.reg [B 2 (.asg (.k (.c (.sl 1 [] .nil))))] [0])
  (.seq (.seq (.reg [B 3 (.mv (.t 0)), B 4 (.bin .eqnil (.t 3) (.k (.c (.sl 1 [] .nil))))] [0, 4])
  (.cond (.t 4) (.seq (.reg [B 2 (.asg (.k (.c (.sl 1 [] .nil))))] [2])
  .ret)
  .skip))
  (.seq (.reg [B 5 (.slE 1), B 6 (.mv (.t 0)), B 7 (.app 1 16 (.t 5) (.t 6)), B 2 (.asg (.t 7))] [2])
  .ret)))
def r125 : List ARes := [.tmp 2]
theorem k125 : bChk Tryz.prog 125 Tryz.f125 1 c125 r125 = true := by kernel_rfl
theorem p125 : Tryz.prog.funcs[125]? = some Tryz.f125 := by kernel_rfl

/-- (*scrivener/catalog.Catalog).Find -/
def c126 : BCode :=
  (.seq (.reg [B 4 (.alloc [.int .i64 0, .str [], .bool false, .sl 1 [] .nil]), B 5 (.asg (.k (.c (.int .i64 0))))] [0, 1, 4])
  (.seq (.seq (.reg [B 8 (.mv (.t 0)), B 9 (.bin .nenil (.t 8) (.k (.c (.nilp))))] [0, 1, 4, 9])
  (.cond (.t 9) (.seq (.reg [B 10 (.mv (.t 0)), B 11 (.nilck (.t 10)), B 12 (.fadr 0 (.t 11)), B 13 (.load false 1 (.t 12)), B 14 (.len (.t 13)), B 15 (.mv (.k (.c (.int .i64 0))))] [0, 1, 4, 13, 14, 15])
  (.block 0 (.loop (.seq (.reg [B 16 (.bin .lt (.t 15) (.t 14))] [0, 1, 4, 13, 14, 15, 16])
  (.seq (.cond (.t 16) .skip
  (.exit 0))
  (.seq (.block 1 (.seq (.reg [B 17 (.iadr 4 (.t 13) (.t 15)), B 18 (.load true 4 (.t 17)), B 7 (.alloc [.int .i64 0, .str [], .bool false, .sl 1 [] .nil]), Bn (.store 4 (.t 7) (.t 18))] [0, 1, 4, 7, 13, 14, 15])
  (.seq (.reg [B 19 (.fadr 1 (.t 7)), B 20 (.load false 1 (.t 19)), B 21 (.mv (.t 1)), B 22 (.bin .seq (.t 20) (.t 21)), B 23 (.mv (.t 22)), Bg 24 (.mv (.t 0)) 23 true, Bg 25 (.fadr 0 (.t 7)) 23 true, Bg 26 (.load false 1 (.t 25)) 23 true, Bg 27 (.call 105 [(.t 24), (.t 26)]) 23 true, B 28 (.pick (.t 23) (.t 27) (.k (.c (.bool false))))] [0, 1, 4, 7, 13, 14, 15, 28])
  (.cond (.t 28) (.seq (.reg [B 29 (.load true 4 (.t 7)), B 30 (.call 101 [(.t 29)]), Bn (.store 4 (.t 4) (.t 30)), B 5 (.asg (.k (.c (.int .i64 0))))] [4, 5])
  .ret)
  .skip))))
  (.reg [B 31 (.bin .add (.t 15) (.k (.c (.int .i64 1)))), B 15 (.mv (.t 31))] [0, 1, 4, 13, 14, 15])))))))
  .skip))
  (.seq (.reg [B 32 (.build [.int .i64 0, .str [], .bool false, .sl 1 [] .nil] []), Bn (.store 4 (.t 4) (.t 32)), B 5 (.asg (.k (.c (.int .i64 13))))] [4, 5])
  .ret)))
def r126 : List ARes := [.cell 4 true 4, .tmp 5]
theorem k126 : bChk Tryz.prog 126 Tryz.f126 2 c126 r126 = true := by kernel_rfl
theorem p126 : Tryz.prog.funcs[126]? = some Tryz.f126 := by kernel_rfl

/-- scrivener/catalog.isName -/
def c127 : BCode :=
  (.seq (.reg [B 2 (.asg (.k (.c (.bool false))))] [0])
  (.seq (.reg [B 3 (.mv (.t 0)), B 4 (.slen (.t 3)), B 5 (.bin .ge (.t 4) (.k (.c (.int .i64 1)))), B 6 (.mv (.t 5)), Bg 7 (.mv (.t 0)) 6 true, Bg 8 (.slen (.t 7)) 6 true, Bg 9 (.bin .le (.t 8) (.k (.c (.int .i64 40)))) 6 true, B 10 (.pick (.t 6) (.t 9) (.k (.c (.bool false)))), B 2 (.asg (.t 10))] [2])
  .ret))
def r127 : List ARes := [.tmp 2]
theorem k127 : bChk Tryz.prog 127 Tryz.f127 1 c127 r127 = true := by kernel_rfl
theorem p127 : Tryz.prog.funcs[127]? = some Tryz.f127 := by kernel_rfl

end Go.Proofs.YtabipibmfjkedaaGreat
