/- The abstract code of the functions, printed by an own tool (gen.py), each checked against the program. -/
import Derived.Test.YtdbaldohbjnlpaaGreatProg
import Derived.Test.YtdbaldohbjnlpaaGreatAb31
import Derived.KernelRfl
set_option maxRecDepth 100000
set_option linter.unusedVariables false
namespace Go.Proofs.YtdbaldohbjnlpaaGreat
open Go.Ab

/-- scrivener/scrivenerlaw27.ClientOfNothing -/
def c5 : BCode :=
  (.seq (.reg [B 2 (.boxR (.t 0)), B 4 (.asg (.k (.c (.bool false))))] [1, 2])
  (.seq (.seq (.reg [B 12 (.fadr 2 (.t 2)), B 13 (.load false 1 (.t 12)), B 14 (.len (.t 13)), B 15 (.bin .gt (.t 14) (.k (.c (.int .i64 1000)))), B 16 (.mv (.t 15)), Bg 17 (.mv (.t 1)) 16 false, Bg 18 (.slR 1 1 [.sl 2 [] .nil] [(0, 1, (.t 17))]) 16 false, Bg 19 (.call 10 [(.t 18)]) 16 false, B 20 (.pick (.t 16) (.k (.c (.bool true))) (.t 19))] [1, 2, 20])
  (.cond (.t 20) (.seq (.reg [B 4 (.asg (.k (.c (.bool true))))] [4])
  .ret)
  .skip))
  (.seq (.reg [B 5 (.asg (.k (.c (.nilp))))] [2, 5])
  (.seq (.reg [B 22 (.mv (.t 5)), B 23 (.mv (.t 1)), B 24 (.call 13 [(.t 22), (.t 23)]), B 21 (.mv (.t 24)), B 25 (.extract 0 (.t 21)), B 26 (.extract 1 (.t 21)), B 6 (.asg (.t 25)), B 7 (.asg (.t 26))] [2, 5, 6, 7])
  (.seq (.reg [B 28 (.mv (.t 5)), B 29 (.load true 3 (.t 2)), B 30 (.call 17 [(.t 28), (.t 29)]), B 27 (.mv (.t 30)), B 31 (.extract 0 (.t 27)), B 32 (.extract 1 (.t 27)), B 8 (.asg (.t 31)), B 9 (.asg (.t 32))] [5, 6, 7, 8, 9])
  (.seq (.reg [B 34 (.mv (.t 5)), B 35 (.call 18 [(.t 34)]), B 33 (.mv (.t 35)), B 36 (.extract 0 (.t 33)), B 37 (.extract 1 (.t 33)), B 10 (.asg (.t 36)), B 11 (.asg (.t 37))] [5, 6, 7, 8, 9, 10, 11])
  (.seq (.reg [B 38 (.mv (.t 6)), B 39 (.bin .eq (.t 38) (.k (.c (.int .i64 0)))), B 40 (.mv (.t 39)), Bg 41 (.mv (.t 7)) 40 true, Bg 42 (.bin .eq (.t 41) (.k (.c (.int .i64 1)))) 40 true, B 43 (.pick (.t 40) (.t 42) (.k (.c (.bool false)))), B 44 (.mv (.t 43)), Bg 45 (.mv (.t 8)) 44 true, Bg 46 (.len (.t 45)) 44 true, Bg 47 (.mv (.t 9)) 44 true, Bg 48 (.len (.t 47)) 44 true, Bg 49 (.bin .add (.t 46) (.t 48)) 44 true, Bg 50 (.mv (.t 10)) 44 true, Bg 51 (.len (.t 50)) 44 true, Bg 52 (.bin .add (.t 49) (.t 51)) 44 true, Bg 53 (.mv (.t 11)) 44 true, Bg 54 (.len (.t 53)) 44 true, Bg 55 (.bin .add (.t 52) (.t 54)) 44 true, Bg 56 (.mv (.t 5)) 44 true, Bg 57 (.call 19 [(.t 56)]) 44 true, Bg 58 (.bin .add (.t 55) (.t 57)) 44 true, Bg 59 (.bin .eq (.t 58) (.k (.c (.int .i64 0)))) 44 true, B 60 (.pick (.t 44) (.t 59) (.k (.c (.bool false)))), B 61 (.mv (.t 60)), Bg 62 (.mv (.t 5)) 61 true, Bg 63 (.call 22 [(.t 62)]) 61 true, Bg 64 (.build [.int .i64 0, .int .u8 0, .int .u8 0, .int .u8 0, .int .u8 0, .int .u8 0, .int .u8 0, .int .u8 0, .int .u8 0, .int .u8 0, .int .u8 0, .int .u8 0, .int .u8 0, .int .u8 0, .int .u8 0, .int .u8 0, .int .u8 0, .int .u8 0, .int .u8 0, .int .u8 0, .int .u8 0, .int .u8 0, .int .u8 0, .int .u8 0, .int .u8 0, .int .u8 0, .int .u8 0, .int .u8 0, .int .u8 0, .int .u8 0, .int .u8 0, .int .u8 0, .int .u8 0] []) 61 true, Bg 65 (.aeq false (true, [.i .i64, .i .u8, .i .u8, .i .u8, .i .u8, .i .u8, .i .u8, .i .u8, .i .u8, .i .u8, .i .u8, .i .u8, .i .u8, .i .u8, .i .u8, .i .u8, .i .u8, .i .u8, .i .u8, .i .u8, .i .u8, .i .u8, .i .u8, .i .u8, .i .u8, .i .u8, .i .u8, .i .u8, .i .u8, .i .u8, .i .u8, .i .u8, .i .u8]) (.t 63) (.t 64)) 61 true, B 66 (.pick (.t 61) (.t 65) (.k (.c (.bool false)))), B 67 (.mv (.t 66)), Bg 68 (.call 11 []) 67 true, B 69 (.pick (.t 67) (.t 68) (.k (.c (.bool false)))), B 4 (.asg (.t 69))] [4])
  .ret)))))))
def r5 : List ARes := [.tmp 4]
theorem k5 : bChk Tryz.prog 5 Tryz.f5 2 c5 r5 = true := by kernel_rfl
theorem p5 : Tryz.prog.funcs[5]? = some Tryz.f5 := by kernel_rfl

/-- scrivener/scrivenerlaw27.heavyJobs -/
def c10 : BCode :=
  (.seq (.reg [B 2 (.asg (.k (.c (.bool false))))] [0])
  (.seq (.reg [B 3 (.alloc [.int .i64 0]), Bn (.store 1 (.t 3) (.k (.c (.int .i64 0)))), B 4 (.asg (.k (.c (.int .i64 0))))] [0, 3, 4])
  (.seq (.seq (.reg [B 5 (.asg (.k (.c (.int .i64 0))))] [0, 3, 4, 5])
  (.block 0 (.loop (.seq (.seq (.reg [B 8 (.mv (.t 5)), B 9 (.mv (.t 0)), B 10 (.len (.t 9)), B 11 (.bin .lt (.t 8) (.t 10))] [0, 3, 4, 5, 11])
  (.cond (.t 11) .skip
  (.exit 0)))
  (.seq (.block 1 (.seq (.regd [Oo 14 (.load false 1 (.t 3)), Oo 15 (.mv (.t 0)), Oo 16 (.mv (.t 5)), Oo 17 (.iadr 1 (.t 15) (.t 16)), Oo 18 (.load false 1 (.t 17)), Oo 19 (.len (.t 18)), Oo 20 (.bin .add (.t 14) (.t 19)), On (.store 1 (.t 3) (.t 20))]
    (.fl 0 (.fl 1 (.fl 2 (.fl 3 (.fl 4 (.fl 5 (.fl 6 (.ch 7 [] .done)))))))) [0, 3, 4, 5])
  (.seq (.reg [B 6 (.asg (.k (.c (.int .i64 0))))] [0, 3, 4, 5, 6])
  (.block 2 (.loop (.seq (.seq (.reg [B 21 (.mv (.t 6)), B 22 (.mv (.t 0)), B 23 (.mv (.t 5)), B 24 (.iadr 1 (.t 22) (.t 23)), B 25 (.load false 1 (.t 24)), B 26 (.len (.t 25)), B 27 (.bin .lt (.t 21) (.t 26))] [0, 3, 4, 5, 6, 27])
  (.cond (.t 27) .skip
  (.exit 2)))
  (.seq (.block 3 (.seq (.reg [B 30 (.mv (.t 4)), B 31 (.mv (.t 0)), B 32 (.mv (.t 5)), B 33 (.iadr 1 (.t 31) (.t 32)), B 34 (.load false 1 (.t 33)), B 35 (.mv (.t 6)), B 36 (.iadr 2 (.t 34) (.t 35)), B 37 (.fadr 0 (.t 36)), B 38 (.load false 1 (.t 37)), B 39 (.slen (.t 38)), B 40 (.bin .add (.t 30) (.t 39)), B 4 (.asg (.t 40))] [0, 3, 4, 5, 6])
  (.seq (.reg [B 7 (.asg (.k (.c (.int .i64 0))))] [0, 3, 4, 5, 6, 7])
  (.block 4 (.loop (.seq (.seq (.reg [B 41 (.mv (.t 7)), B 42 (.mv (.t 0)), B 43 (.mv (.t 5)), B 44 (.iadr 1 (.t 42) (.t 43)), B 45 (.load false 1 (.t 44)), B 46 (.mv (.t 6)), B 47 (.iadr 2 (.t 45) (.t 46)), B 48 (.fadr 1 (.t 47)), B 49 (.load false 1 (.t 48)), B 50 (.len (.t 49)), B 51 (.bin .lt (.t 41) (.t 50))] [0, 3, 4, 5, 6, 7, 51])
  (.cond (.t 51) .skip
  (.exit 4)))
  (.seq (.block 5 (.seq (.reg [B 54 (.mv (.t 0)), B 55 (.mv (.t 5)), B 56 (.iadr 1 (.t 54) (.t 55)), B 57 (.load false 1 (.t 56)), B 58 (.mv (.t 6)), B 59 (.iadr 2 (.t 57) (.t 58)), B 60 (.fadr 1 (.t 59)), B 61 (.load false 1 (.t 60)), B 62 (.mv (.t 7)), B 63 (.iadr 6 (.t 61) (.t 62)), B 64 (.load true 6 (.t 63)), B 65 (.call 24 [(.t 64), (.t 3)])] [0, 3, 4, 5, 6, 7, 65])
  (.cond (.t 65) (.seq (.reg [B 2 (.asg (.k (.c (.bool true))))] [2])
  .ret)
  .skip)))
  (.reg [B 52 (.mv (.t 7)), B 53 (.bin .add (.t 52) (.k (.c (.int .i64 1)))), B 7 (.asg (.t 53))] [0, 3, 4, 5, 6, 7]))))))))
  (.reg [B 28 (.mv (.t 6)), B 29 (.bin .add (.t 28) (.k (.c (.int .i64 1)))), B 6 (.asg (.t 29))] [0, 3, 4, 5, 6]))))))))
  (.reg [B 12 (.mv (.t 5)), B 13 (.bin .add (.t 12) (.k (.c (.int .i64 1)))), B 5 (.asg (.t 13))] [0, 3, 4, 5]))))))
  (.seq (.reg [B 66 (.load false 1 (.t 3)), B 67 (.bin .gt (.t 66) (.k (.c (.int .i64 500)))), B 68 (.mv (.t 67)), Bg 69 (.mv (.t 4)) 68 false, Bg 70 (.bin .gt (.t 69) (.k (.c (.int .i64 8000)))) 68 false, B 71 (.pick (.t 68) (.k (.c (.bool true))) (.t 70)), B 2 (.asg (.t 71))] [2])
  .ret))))
def r10 : List ARes := [.tmp 2]
theorem k10 : bChk Tryz.prog 10 Tryz.f10 1 c10 r10 = true := by kernel_rfl
theorem p10 : Tryz.prog.funcs[10]? = some Tryz.f10 := by kernel_rfl

/-- scrivener/scrivenerlaw27.known -/
def c11 : BCode :=
  (.seq (.reg [B 0 (.asg (.k (.c (.bool false))))] [])
  (.seq (.reg [B 8 (.call 12 [(.k (.c (.int .i64 1))), (.k (.c (.int .i64 5)))]), B 7 (.mv (.t 8)), B 9 (.extract 0 (.t 7)), B 10 (.extract 1 (.t 7)), B 1 (.asg (.t 9)), B 2 (.asg (.t 10))] [1, 2])
  (.seq (.seq (.reg [B 11 (.mv (.t 2)), B 12 (.not (.t 11)), B 13 (.mv (.t 12)), Bg 14 (.mv (.t 1)) 13 false, Bg 15 (.nilck (.t 14)) 13 false, Bg 16 (.fadr 0 (.t 15)) 13 false, Bg 17 (.load false 1 (.t 16)) 13 false, Bg 18 (.bin .eqnil (.t 17) (.k (.c (.nilp)))) 13 false, B 19 (.pick (.t 13) (.k (.c (.bool true))) (.t 18))] [1, 19])
  (.cond (.t 19) (.seq (.reg [B 0 (.asg (.k (.c (.bool false))))] [0])
  .ret)
  .skip))
  (.seq (.reg [B 20 (.mv (.t 1)), B 21 (.nilck (.t 20)), B 22 (.fadr 0 (.t 21)), B 23 (.load false 1 (.t 22)), B 24 (.build [.str [], .sl 6 [] .nil] [(0, 1, (.k (.c (.str [99, 114, 101, 97, 116, 101, 32, 116, 97, 98, 108, 101, 32, 116]))))]), B 25 (.slR 2 1 [.str [], .sl 6 [] .nil] [(0, 2, (.t 24))]), B 26 (.call 13 [(.t 23), (.t 25)])] [1])
  (.seq (.reg [B 28 (.mv (.t 1)), B 29 (.nilck (.t 28)), B 30 (.fadr 0 (.t 29)), B 31 (.load false 1 (.t 30)), B 32 (.call 18 [(.t 31)]), B 27 (.mv (.t 32)), B 33 (.extract 0 (.t 27)), B 34 (.extract 1 (.t 27)), B 3 (.asg (.t 33)), B 4 (.asg (.t 34))] [4])
  (.seq (.seq (.reg [B 35 (.mv (.t 4)), B 36 (.len (.t 35)), B 37 (.bin .ne (.t 36) (.k (.c (.int .i64 1)))), B 38 (.mv (.t 37)), Bg 39 (.mv (.t 4)) 38 false, Bg 40 (.iadr 3 (.t 39) (.k (.c (.int .i64 0)))) 38 false, Bg 41 (.fadr 0 (.t 40)) 38 false, Bg 42 (.load false 1 (.t 41)) 38 false, Bg 43 (.bin .ne (.t 42) (.k (.c (.int .i64 1)))) 38 false, B 44 (.pick (.t 38) (.k (.c (.bool true))) (.t 43)), B 45 (.mv (.t 44)), Bg 46 (.mv (.t 4)) 45 false, Bg 47 (.iadr 3 (.t 46) (.k (.c (.int .i64 0)))) 45 false, Bg 48 (.fadr 1 (.t 47)) 45 false, Bg 49 (.load false 1 (.t 48)) 45 false, Bg 50 (.bin .ne (.t 49) (.k (.c (.int .i64 0)))) 45 false, B 51 (.pick (.t 45) (.k (.c (.bool true))) (.t 50))] [4, 51])
  (.cond (.t 51) (.seq (.reg [B 0 (.asg (.k (.c (.bool false))))] [0])
  .ret)
  .skip))
  (.seq (.reg [B 53 (.mv (.t 4)), B 54 (.iadr 3 (.t 53) (.k (.c (.int .i64 0)))), B 55 (.fadr 2 (.t 54)), B 56 (.load false 1 (.t 55)), B 57 (.call 21 [(.t 56)]), B 52 (.mv (.t 57)), B 58 (.extract 0 (.t 52)), B 59 (.extract 1 (.t 52)), B 5 (.alloc [.int .i64 0, .int .i64 0, .sl 1 [] .nil, .str [], .sl 6 [] .nil, .int .u8 0, .int .u8 0, .int .u8 0, .int .u8 0, .int .u8 0, .int .u8 0, .int .u8 0, .int .u8 0, .int .u8 0, .int .u8 0, .int .u8 0, .int .u8 0, .int .u8 0, .int .u8 0, .int .u8 0, .int .u8 0, .int .u8 0, .int .u8 0, .int .u8 0, .int .u8 0, .int .u8 0, .int .u8 0, .int .u8 0, .int .u8 0, .int .u8 0, .int .u8 0, .int .u8 0, .int .u8 0, .int .u8 0, .int .u8 0, .int .u8 0, .int .u8 0]), Bn (.store 37 (.t 5) (.t 58)), B 6 (.asg (.t 59))] [5, 6])
  (.seq (.reg [B 60 (.mv (.t 6)), B 61 (.bin .eq (.t 60) (.k (.c (.int .i64 0)))), B 62 (.mv (.t 61)), Bg 63 (.fadr 0 (.t 5)) 62 true, Bg 64 (.load false 1 (.t 63)) 62 true, Bg 65 (.bin .eq (.t 64) (.k (.c (.int .i64 1)))) 62 true, B 66 (.pick (.t 62) (.t 65) (.k (.c (.bool false)))), B 67 (.mv (.t 66)), Bg 68 (.fadr 1 (.t 5)) 67 true, Bg 69 (.load false 1 (.t 68)) 67 true, Bg 70 (.bin .eq (.t 69) (.k (.c (.int .i64 1)))) 67 true, B 71 (.pick (.t 67) (.t 70) (.k (.c (.bool false)))), B 0 (.asg (.t 71))] [0])
  .ret))))))))
def r11 : List ARes := [.tmp 0]
theorem k11 : bChk Tryz.prog 11 Tryz.f11 0 c11 r11 = true := by kernel_rfl
theorem p11 : Tryz.prog.funcs[11]? = some Tryz.f11 := by kernel_rfl

/-- scrivener/scrivenerlaw27.start -/
def c12 : BCode :=
  (.seq (.reg [B 4 (.asg (.k (.c (.nilp)))), B 5 (.asg (.k (.c (.bool false))))] [0, 1])
  (.seq (.reg [B 15 (.mv (.t 0)), B 16 (.mv (.t 1)), B 17 (.call 20 [(.t 15), (.t 16)]), B 14 (.mv (.t 17)), B 18 (.extract 0 (.t 14)), B 19 (.extract 1 (.t 14)), B 6 (.asg (.t 18)), B 7 (.asg (.t 19))] [0, 1, 6, 7])
  (.seq (.reg [B 21 (.mv (.t 0)), B 22 (.mv (.t 1)), B 23 (.call 25 [(.t 21), (.t 22)]), B 20 (.mv (.t 23)), B 24 (.extract 0 (.t 20)), B 25 (.extract 1 (.t 20)), B 8 (.asg (.t 24)), B 9 (.asg (.t 25))] [6, 7, 8, 9])
  (.seq (.reg [B 27 (.call 26 [(.k (.c (.int .i64 4194304)))]), B 26 (.mv (.t 27)), B 28 (.extract 0 (.t 26)), B 29 (.extract 1 (.t 26)), B 10 (.asg (.t 28)), B 11 (.asg (.t 29))] [6, 7, 8, 9, 10])
  (.seq (.reg [B 31 (.mv (.t 10)), B 32 (.build [.int .i64 0, .int .i64 0] [(0, 1, (.k (.c (.int .i64 2)))), (1, 1, (.k (.c (.int .i64 30))))]), B 33 (.call 27 [(.t 31), (.t 32)]), B 30 (.mv (.t 33)), B 34 (.extract 0 (.t 30)), B 35 (.extract 1 (.t 30)), B 12 (.asg (.t 34)), B 13 (.asg (.t 35))] [6, 7, 8, 9, 12])
  (.seq (.reg [B 36 (.mv (.t 6)), B 37 (.mv (.t 8)), B 38 (.mv (.t 12)), B 39 (.build [.nilp, .nilp, .nilp, .sl 3 [] .nil] [(0, 1, (.t 36)), (1, 1, (.t 37)), (2, 1, (.t 38))]), B 40 (.box (.t 39)), B 41 (.mv (.t 7)), B 42 (.mv (.t 9)), B 43 (.bin .eq (.t 41) (.t 42)), B 44 (.mv (.t 43)), Bg 45 (.mv (.t 6)) 44 true, Bg 46 (.bin .eqnil (.t 45) (.k (.c (.nilp)))) 44 true, Bg 47 (.mv (.t 9)) 44 true, Bg 48 (.bin .ne (.t 47) (.k (.c (.int .i64 0)))) 44 true, Bg 49 (.bin .eqb (.t 46) (.t 48)) 44 true, B 50 (.pick (.t 44) (.t 49) (.k (.c (.bool false)))), B 4 (.asg (.t 40)), B 5 (.asg (.t 50))] [4, 5])
  .ret))))))
def r12 : List ARes := [.tmp 4, .tmp 5]
theorem k12 : bChk Tryz.prog 12 Tryz.f12 2 c12 r12 = true := by kernel_rfl
theorem p12 : Tryz.prog.funcs[12]? = some Tryz.f12 := by kernel_rfl

/-- (*scrivener/client.Client).Do -/
def c13 : BCode :=
  (.seq (.reg [B 4 (.asg (.k (.c (.int .i64 0)))), B 5 (.asg (.k (.c (.int .i64 0))))] [0, 1])
  (.seq (.block 0 (.seq (.reg [B 14 (.mv (.t 0)), B 15 (.bin .eqnil (.t 14) (.k (.c (.nilp)))), B 16 (.mv (.t 15)), Bg 17 (.mv (.t 1)) 16 false, Bg 18 (.len (.t 17)) 16 false, Bg 19 (.bin .eq (.t 18) (.k (.c (.int .i64 0)))) 16 false, B 20 (.pick (.t 16) (.k (.c (.bool true))) (.t 19)), B 21 (.mv (.t 20)), Bg 22 (.mv (.t 1)) 21 false, Bg 23 (.len (.t 22)) 21 false, Bg 24 (.bin .gt (.t 23) (.k (.c (.int .i64 40)))) 21 false, B 25 (.pick (.t 21) (.k (.c (.bool true))) (.t 24)), B 13 (.asg (.t 25))] [0, 1, 13])
  (.cond (.t 13) (.seq (.reg [B 4 (.asg (.k (.c (.int .i64 0)))), B 5 (.asg (.k (.c (.int .i64 1))))] [4, 5])
  .ret)
  .skip)))
  (.seq (.seq (.reg [B 26 (.mv (.t 1)), B 27 (.len (.t 26)), B 28 (.mv (.k (.c (.int .i64 0))))] [0, 1, 26, 27, 28])
  (.block 1 (.loop (.seq (.reg [B 29 (.bin .lt (.t 28) (.t 27))] [0, 1, 26, 27, 28, 29])
  (.seq (.cond (.t 29) .skip
  (.exit 1))
  (.seq (.block 2 (.seq (.reg [B 30 (.iadr 2 (.t 26) (.t 28)), B 31 (.load true 2 (.t 30)), B 7 (.alloc [.str [], .sl 6 [] .nil]), Bn (.store 2 (.t 7) (.t 31))] [0, 1, 7, 26, 27, 28])
  (.seq (.reg [B 33 (.slR 1 2 [.int .i64 0, .int .i64 0] [(0, 1, (.k (.c (.int .i64 9007199254740992)))), (1, 1, (.k (.c (.int .i64 9007199254740992))))]), B 34 (.fadr 0 (.t 7)), B 35 (.load false 1 (.t 34)), B 36 (.fadr 1 (.t 7)), B 37 (.load false 1 (.t 36)), B 38 (.build [.int .i64 0, .int .i64 0, .sl 1 [] .nil, .str [], .sl 6 [] .nil, .int .u8 0, .int .u8 0, .int .u8 0, .int .u8 0, .int .u8 0, .int .u8 0, .int .u8 0, .int .u8 0, .int .u8 0, .int .u8 0, .int .u8 0, .int .u8 0, .int .u8 0, .int .u8 0, .int .u8 0, .int .u8 0, .int .u8 0, .int .u8 0, .int .u8 0, .int .u8 0, .int .u8 0, .int .u8 0, .int .u8 0, .int .u8 0, .int .u8 0, .int .u8 0, .int .u8 0, .int .u8 0, .int .u8 0, .int .u8 0, .int .u8 0, .int .u8 0] [(0, 1, (.k (.c (.int .i64 4)))), (1, 1, (.k (.c (.int .i64 9007199254740992)))), (2, 1, (.t 33)), (3, 1, (.t 35)), (4, 1, (.t 37))]), B 39 (.call 28 [(.t 38)]), B 32 (.mv (.t 39)), B 40 (.extract 0 (.t 32)), B 41 (.extract 1 (.t 32)), B 8 (.asg (.t 40)), B 9 (.asg (.t 41))] [0, 1, 9, 26, 27, 28])
  (.seq (.reg [B 42 (.mv (.t 9)), B 43 (.bin .ne (.t 42) (.k (.c (.int .i64 0))))] [0, 1, 9, 26, 27, 28, 43])
  (.cond (.t 43) (.seq (.reg [B 44 (.mv (.t 9)), B 4 (.asg (.k (.c (.int .i64 0)))), B 5 (.asg (.t 44))] [4, 5])
  .ret)
  .skip)))))
  (.reg [B 45 (.bin .add (.t 28) (.k (.c (.int .i64 1)))), B 28 (.mv (.t 45))] [0, 1, 26, 27, 28])))))))
  (.seq (.seq (.reg [B 46 (.mv (.t 0)), B 47 (.call 19 [(.t 46)]), B 48 (.bin .ge (.t 47) (.k (.c (.int .i64 100))))] [0, 1, 48])
  (.cond (.t 48) (.seq (.reg [B 4 (.asg (.k (.c (.int .i64 0)))), B 5 (.asg (.k (.c (.int .i64 17))))] [4, 5])
  .ret)
  .skip))
  (.seq (.reg [B 10 (.asg (.k (.c (.sl 2 [] .nil))))] [0, 1, 10])
  (.seq (.seq (.reg [B 49 (.mv (.t 1)), B 50 (.len (.t 49)), B 51 (.mv (.k (.c (.int .i64 0))))] [0, 10, 49, 50, 51])
  (.block 3 (.loop (.seq (.reg [B 52 (.bin .lt (.t 51) (.t 50))] [0, 10, 49, 50, 51, 52])
  (.seq (.cond (.t 52) .skip
  (.exit 3))
  (.seq (.block 4 (.seq (.reg [B 53 (.iadr 2 (.t 49) (.t 51)), B 54 (.load true 2 (.t 53)), B 12 (.alloc [.str [], .sl 6 [] .nil]), Bn (.store 2 (.t 12) (.t 54))] [0, 10, 12, 49, 50, 51])
  (.regd [Oo 55 (.mv (.t 10)), Oo 56 (.fadr 0 (.t 12)), Oo 57 (.load false 1 (.t 56)), Oo 58 (.fadr 1 (.t 12)), Oo 59 (.load false 1 (.t 58)), Oo 60 (.call 29 [(.t 59)]), Oo 61 (.build [.str [], .sl 6 [] .nil] [(0, 1, (.t 57)), (1, 1, (.t 60))]), Oo 62 (.slR 2 1 [.str [], .sl 6 [] .nil] [(0, 2, (.t 61))]), Oo 63 (.app 2 40 (.t 55) (.t 62)), Oo 10 (.asg (.t 63))]
    (.fl 0 (.fl 1 (.fl 2 (.fl 3 (.fl 4 (.ch 5 [2] (.fl 6 (.fl 7 (.ch 8 [] (.ch 9 [] .done)))))))))) [0, 10, 49, 50, 51])))
  (.reg [B 64 (.bin .add (.t 51) (.k (.c (.int .i64 1)))), B 51 (.mv (.t 64))] [0, 10, 49, 50, 51])))))))
  (.seq (.reg [B 65 (.mv (.t 0)), B 66 (.mv (.t 0)), B 67 (.nilck (.t 66)), B 68 (.fadr 5 (.t 67)), B 69 (.load false 1 (.t 68)), B 70 (.mv (.t 10)), B 71 (.slR 1 1 [.sl 2 [] .nil] [(0, 1, (.t 70))]), B 72 (.app 1 24 (.t 69) (.t 71)), B 73 (.nilck (.t 65)), B 74 (.fadr 5 (.t 73)), Bn (.store 1 (.t 74) (.t 72))] [0])
  (.seq (.reg [B 75 (.mv (.t 0)), B 76 (.nilck (.t 75)), B 77 (.fadr 6 (.t 76)), B 78 (.load false 1 (.t 77)), B 79 (.bin .add (.t 78) (.k (.c (.int .i64 1)))), B 80 (.nilck (.t 75)), B 81 (.fadr 6 (.t 80)), Bn (.store 1 (.t 81) (.t 79))] [0])
  (.seq (.reg [B 82 (.mv (.t 0)), B 83 (.nilck (.t 82)), B 84 (.fadr 6 (.t 83)), B 85 (.load false 1 (.t 84)), B 86 (.bin .sub (.t 85) (.k (.c (.int .i64 1)))), B 4 (.asg (.t 86)), B 5 (.asg (.k (.c (.int .i64 0))))] [4, 5])
  .ret)))))))))
def r13 : List ARes := [.tmp 4, .tmp 5]
theorem k13 : bChk Tryz.prog 13 Tryz.f13 2 c13 r13 = true := by kernel_rfl
theorem p13 : Tryz.prog.funcs[13]? = some Tryz.f13 := by kernel_rfl

/-- (*scrivener/client.Client).Hear -/
def c17 : BCode :=
  (.seq (.reg [B 3 (.boxR (.t 1)), B 4 (.asg (.k (.c (.sl 5 [] .nil)))), B 5 (.asg (.k (.c (.sl 3 [] .nil))))] [0, 3])
  (.seq (.seq (.regd [Oo 9 (.mv (.t 0)), Oo 10 (.bin .eqnil (.t 9) (.k (.c (.nilp)))), Oo 11 (.mv (.t 10)), Og 12 (.fadr 0 (.t 3)) 11 false, Og 13 (.load false 1 (.t 12)) 11 false, Og 14 (.bin .ne (.t 13) (.k (.c (.int .i64 0)))) 11 false, Oo 15 (.pick (.t 11) (.k (.c (.bool true))) (.t 14)), Oo 16 (.mv (.t 15)), Og 17 (.fadr 1 (.t 3)) 16 false, Og 18 (.load false 1 (.t 17)) 16 false, Og 19 (.mv (.t 0)) 16 false, Og 20 (.nilck (.t 19)) 16 false, Og 21 (.fadr 0 (.t 20)) 16 false, Og 22 (.load false 1 (.t 21)) 16 false, Og 23 (.bin .ne (.t 18) (.t 22)) 16 false, Oo 24 (.pick (.t 16) (.k (.c (.bool true))) (.t 23)), Oo 25 (.mv (.t 24)), Og 26 (.mv (.t 0)) 25 false, Og 27 (.nilck (.t 26)) 25 false, Og 28 (.fadr 7 (.t 27)) 25 false, Og 29 (.load false 1 (.t 28)) 25 false, Og 30 (.bin .eqnil (.t 29) (.k (.c (.nilp)))) 25 false, Oo 31 (.pick (.t 25) (.k (.c (.bool true))) (.t 30)), Oo 32 (.mv (.t 31)), Og 33 (.mv (.t 0)) 32 false, Og 34 (.nilck (.t 33)) 32 false, Og 35 (.fadr 8 (.t 34)) 32 false, Og 36 (.load false 1 (.t 35)) 32 false, Og 37 (.bin .eqnil (.t 36) (.k (.c (.sl 1 [] .nil)))) 32 false, Oo 38 (.pick (.t 32) (.k (.c (.bool true))) (.t 37))]
    (.fl 0 (.fl 1 (.fl 2 (.fl 3 (.fl 4 (.fl 5 (.fl 6 (.fl 7 (.fl 8 (.fl 9 (.fl 10 (.fl 11 (.fl 12 (.fl 13 (.fl 14 (.fl 15 (.fl 16 (.fl 17 (.fl 18 (.fl 19 (.fl 20 (.fl 21 (.fl 22 (.fl 23 (.fl 24 (.fl 25 (.fl 26 (.fl 27 (.fl 28 (.fl 29 .done)))))))))))))))))))))))))))))) [0, 3, 38])
  (.cond (.t 38) (.seq (.reg [B 4 (.asg (.k (.c (.sl 5 [] .nil)))), B 5 (.asg (.k (.c (.sl 3 [] .nil))))] [4, 5])
  .ret)
  .skip))
  (.seq (.reg [B 40 (.fadr 2 (.t 3)), B 41 (.load false 1 (.t 40)), B 42 (.call 36 [(.t 41)]), B 39 (.mv (.t 42)), B 43 (.extract 0 (.t 39)), B 44 (.extract 1 (.t 39)), B 6 (.alloc [.int .i64 0, .int .i64 0, .sl 1 [] .nil, .sl 6 [] .nil, .sl 1 [] .nil]), Bn (.store 5 (.t 6) (.t 43)), B 7 (.asg (.t 44))] [0, 6, 7])
  (.seq (.seq (.regd [Oo 45 (.mv (.t 7)), Oo 46 (.bin .ne (.t 45) (.k (.c (.int .i64 0)))), Oo 47 (.mv (.t 46)), Og 48 (.fadr 0 (.t 6)) 47 false, Og 49 (.load false 1 (.t 48)) 47 false, Og 50 (.conv .u64 (.t 49)) 47 false, Og 51 (.mv (.t 0)) 47 false, Og 52 (.nilck (.t 51)) 47 false, Og 53 (.fadr 2 (.t 52)) 47 false, Og 54 (.load false 1 (.t 53)) 47 false, Og 55 (.bin .ne (.t 50) (.t 54)) 47 false, Oo 56 (.pick (.t 47) (.k (.c (.bool true))) (.t 55))]
    (.fl 0 (.fl 1 (.fl 2 (.fl 3 (.fl 4 (.fl 5 (.fl 6 (.fl 7 (.fl 8 (.fl 9 (.fl 10 (.fl 11 .done)))))))))))) [0, 6, 56])
  (.cond (.t 56) (.seq (.reg [B 4 (.asg (.k (.c (.sl 5 [] .nil)))), B 5 (.asg (.k (.c (.sl 3 [] .nil))))] [4, 5])
  .ret)
  .skip))
  (.seq (.reg [B 57 (.mv (.t 0)), B 58 (.nilck (.t 57)), B 59 (.fadr 8 (.t 58)), Bn (.store 1 (.t 59) (.k (.c (.sl 1 [] .nil))))] [0, 6])
  (.seq (.regd [Oo 60 (.mv (.t 0)), Oo 61 (.nilck (.t 60)), Oo 62 (.fadr 7 (.t 61)), Oo 63 (.load false 1 (.t 62)), Oo 64 (.nilck (.t 63)), Oo 65 (.fadr 73 (.t 64)), Oo 66 (.load false 1 (.t 65)), Oo 67 (.load true 5 (.t 6)), Oo 68 (.callv (.t 66) [(.t 67)]), Oo 8 (.asg (.t 68))]
    (.fl 0 (.fl 1 (.fl 2 (.fl 3 (.fl 4 (.fl 5 (.fl 6 (.fl 7 (.ch 8 [] (.ch 9 [] .done)))))))))) [0, 8])
  (.seq (.reg [B 69 (.mv (.t 0)), B 70 (.call 37 [(.t 69)]), B 71 (.mv (.t 8)), B 4 (.asg (.t 70)), B 5 (.asg (.t 71))] [4, 5])
  .ret)))))))
def r17 : List ARes := [.tmp 4, .tmp 5]
theorem k17 : bChk Tryz.prog 17 Tryz.f17 2 c17 r17 = true := by kernel_rfl
theorem p17 : Tryz.prog.funcs[17]? = some Tryz.f17 := by kernel_rfl

/-- (*scrivener/client.Client).Tick -/
def c18 : BCode :=
  (.seq (.reg [B 2 (.asg (.k (.c (.sl 5 [] .nil)))), B 3 (.asg (.k (.c (.sl 3 [] .nil))))] [0])
  (.seq (.seq (.reg [B 6 (.mv (.t 0)), B 7 (.bin .eqnil (.t 6) (.k (.c (.nilp))))] [0, 7])
  (.cond (.t 7) (.seq (.reg [B 2 (.asg (.k (.c (.sl 5 [] .nil)))), B 3 (.asg (.k (.c (.sl 3 [] .nil))))] [2, 3])
  .ret)
  .skip))
  (.seq (.seq (.reg [B 8 (.mv (.t 0)), B 9 (.nilck (.t 8)), B 10 (.fadr 7 (.t 9)), B 11 (.load false 1 (.t 10)), B 12 (.bin .eqnil (.t 11) (.k (.c (.nilp))))] [0, 12])
  (.cond (.t 12) (.seq (.seq (.reg [B 13 (.mv (.t 0)), B 14 (.nilck (.t 13)), B 15 (.fadr 5 (.t 14)), B 16 (.load false 1 (.t 15)), B 17 (.len (.t 16)), B 18 (.bin .eq (.t 17) (.k (.c (.int .i64 0))))] [0, 18])
  (.cond (.t 18) (.seq (.reg [B 2 (.asg (.k (.c (.sl 5 [] .nil)))), B 3 (.asg (.k (.c (.sl 3 [] .nil))))] [2, 3])
  .ret)
  .skip))
  (.seq (.regd [Oo 19 (.mv (.t 0)), Oo 20 (.mv (.t 0)), Oo 21 (.nilck (.t 20)), Oo 22 (.fadr 6 (.t 21)), Oo 23 (.load false 1 (.t 22)), Oo 24 (.mv (.t 0)), Oo 25 (.nilck (.t 24)), Oo 26 (.fadr 5 (.t 25)), Oo 27 (.load false 1 (.t 26)), Oo 28 (.len (.t 27)), Oo 29 (.bin .sub (.t 23) (.t 28)), Oo 30 (.mv (.t 0)), Oo 31 (.nilck (.t 30)), Oo 32 (.fadr 5 (.t 31)), Oo 33 (.load false 1 (.t 32)), Oo 34 (.iadr 1 (.t 33) (.k (.c (.int .i64 0)))), Oo 35 (.load false 1 (.t 34)), Oo 36 (.build [.int .i64 0, .sl 2 [] .nil, .int .i64 0, .int .i64 0, .int .u8 0, .int .u8 0, .int .u8 0, .int .u8 0, .int .u8 0, .int .u8 0, .int .u8 0, .int .u8 0, .int .u8 0, .int .u8 0, .int .u8 0, .int .u8 0, .int .u8 0, .int .u8 0, .int .u8 0, .int .u8 0, .int .u8 0, .int .u8 0, .int .u8 0, .int .u8 0, .int .u8 0, .int .u8 0, .int .u8 0, .int .u8 0, .int .u8 0, .int .u8 0, .int .u8 0, .int .u8 0, .int .u8 0, .int .u8 0, .int .u8 0, .int .u8 0, .sl 1 [] .nil, .bool false, .int .i64 0, .int .i64 0, .int .u8 0, .int .u8 0, .int .u8 0, .int .u8 0, .int .u8 0, .int .u8 0, .int .u8 0, .int .u8 0, .int .u8 0, .int .u8 0, .int .u8 0, .int .u8 0, .int .u8 0, .int .u8 0, .int .u8 0, .int .u8 0, .int .u8 0, .int .u8 0, .int .u8 0, .int .u8 0, .int .u8 0, .int .u8 0, .int .u8 0, .int .u8 0, .int .u8 0, .int .u8 0, .int .u8 0, .int .u8 0, .int .u8 0, .int .u8 0, .int .u8 0, .int .u8 0, .int .i64 0, .nilfn] [(0, 1, (.t 29)), (1, 1, (.t 35)), (2, 1, (.k (.c (.int .i64 1))))]), Oo 37 (.box (.t 36)), Oo 38 (.nilck (.t 19)), Oo 39 (.fadr 7 (.t 38)), On (.store 1 (.t 39) (.t 37))]
    (.fl 0 (.fl 1 (.fl 2 (.fl 3 (.fl 4 (.fl 5 (.fl 6 (.fl 7 (.fl 8 (.fl 9 (.fl 10 (.fl 11 (.fl 12 (.fl 13 (.fl 14 (.fl 15 (.fl 16 (.fl 17 (.ch 18 [] (.fl 19 (.fl 20 (.ch 21 [] .done)))))))))))))))))))))) [0])
  (.seq (.reg [B 40 (.mv (.t 0)), B 41 (.mv (.t 0)), B 42 (.nilck (.t 41)), B 43 (.fadr 5 (.t 42)), B 44 (.load false 1 (.t 43)), B 45 (.slice 1 (.t 44) (some (.k (.c (.int .i64 1)))) none none), B 46 (.nilck (.t 40)), B 47 (.fadr 5 (.t 46)), Bn (.store 1 (.t 47) (.t 45))] [0])
  (.seq (.reg [B 48 (.mv (.t 0)), B 49 (.call 38 [(.t 48)]), B 4 (.asg (.t 49))] [0, 4])
  (.seq (.reg [B 50 (.mv (.t 0)), B 51 (.call 37 [(.t 50)]), B 52 (.mv (.t 4)), B 2 (.asg (.t 51)), B 3 (.asg (.t 52))] [2, 3])
  .ret)))))
  .skip))
  (.seq (.seq (.reg [B 53 (.mv (.t 0)), B 54 (.nilck (.t 53)), B 55 (.fadr 9 (.t 54)), B 56 (.load false 1 (.t 55)), B 57 (.bin .add (.t 56) (.k (.c (.int .i64 1)))), B 58 (.nilck (.t 53)), B 59 (.fadr 9 (.t 58)), Bn (.store 1 (.t 59) (.t 57))] [0])
  (.seq (.reg [B 60 (.mv (.t 0)), B 61 (.nilck (.t 60)), B 62 (.fadr 9 (.t 61)), B 63 (.load false 1 (.t 62)), B 64 (.bin .lt (.t 63) (.k (.c (.int .i64 10))))] [0, 64])
  (.cond (.t 64) (.seq (.reg [B 2 (.asg (.k (.c (.sl 5 [] .nil)))), B 3 (.asg (.k (.c (.sl 3 [] .nil))))] [2, 3])
  .ret)
  .skip)))
  (.seq (.seq (.reg [B 65 (.mv (.t 0)), B 66 (.nilck (.t 65)), B 67 (.fadr 10 (.t 66)), B 68 (.load false 1 (.t 67)), B 69 (.bin .ge (.t 68) (.k (.c (.int .i64 5))))] [0, 69])
  (.cond (.t 69) (.seq (.reg [B 5 (.asg (.k (.c (.int .i64 21))))] [0, 5])
  (.seq (.block 0 (.seq (.reg [B 71 (.mv (.t 0)), B 72 (.nilck (.t 71)), B 73 (.fadr 7 (.t 72)), B 74 (.load false 1 (.t 73)), B 75 (.nilck (.t 74)), B 76 (.fadr 37 (.t 75)), B 77 (.load false 1 (.t 76)), B 70 (.asg (.t 77))] [0, 5, 70])
  (.cond (.t 70) (.reg [B 5 (.asg (.k (.c (.int .i64 19))))] [0, 5])
  (.seq (.reg [B 79 (.mv (.t 0)), B 80 (.nilck (.t 79)), B 81 (.fadr 7 (.t 80)), B 82 (.load false 1 (.t 81)), B 83 (.nilck (.t 82)), B 84 (.fadr 72 (.t 83)), B 85 (.load false 1 (.t 84)), B 86 (.bin .ne (.t 85) (.k (.c (.int .i64 0)))), B 78 (.asg (.t 86))] [0, 5, 78])
  (.cond (.t 78) (.reg [B 87 (.mv (.t 0)), B 88 (.nilck (.t 87)), B 89 (.fadr 7 (.t 88)), B 90 (.load false 1 (.t 89)), B 91 (.nilck (.t 90)), B 92 (.fadr 72 (.t 91)), B 93 (.load false 1 (.t 92)), B 5 (.asg (.t 93))] [0, 5])
  .skip)))))
  (.seq (.reg [B 94 (.mv (.t 0)), B 95 (.nilck (.t 94)), B 96 (.fadr 4 (.t 95)), Bn (.store 1 (.t 96) (.k (.c (.bool false))))] [0, 5])
  (.seq (.reg [B 97 (.mv (.t 0)), B 98 (.mv (.t 5)), B 99 (.call 39 [(.t 97), (.t 98)])] [0])
  (.seq (.reg [B 100 (.mv (.t 0)), B 101 (.call 37 [(.t 100)]), B 2 (.asg (.t 101)), B 3 (.asg (.k (.c (.sl 3 [] .nil))))] [2, 3])
  .ret)))))
  .skip))
  (.seq (.reg [B 102 (.mv (.t 0)), B 103 (.nilck (.t 102)), B 104 (.fadr 9 (.t 103)), Bn (.store 1 (.t 104) (.k (.c (.int .i64 0))))] [0])
  (.seq (.reg [B 105 (.mv (.t 0)), B 106 (.nilck (.t 105)), B 107 (.fadr 10 (.t 106)), B 108 (.load false 1 (.t 107)), B 109 (.bin .add (.t 108) (.k (.c (.int .i64 1)))), B 110 (.nilck (.t 105)), B 111 (.fadr 10 (.t 110)), Bn (.store 1 (.t 111) (.t 109))] [0])
  (.seq (.reg [B 112 (.mv (.t 0)), B 113 (.call 40 [(.t 112)]), B 2 (.asg (.k (.c (.sl 5 [] .nil)))), B 3 (.asg (.t 113))] [2, 3])
  .ret))))))))
def r18 : List ARes := [.tmp 2, .tmp 3]
theorem k18 : bChk Tryz.prog 18 Tryz.f18 1 c18 r18 = true := by kernel_rfl
theorem p18 : Tryz.prog.funcs[18]? = some Tryz.f18 := by kernel_rfl

/-- (*scrivener/client.Client).Left -/
def c19 : BCode :=
  (.seq (.reg [B 2 (.asg (.k (.c (.int .i64 0))))] [0])
  (.seq (.block 0 (.seq (.reg [B 4 (.mv (.t 0)), B 5 (.bin .eqnil (.t 4) (.k (.c (.nilp)))), B 3 (.asg (.t 5))] [0, 3])
  (.cond (.t 3) (.seq (.reg [B 2 (.asg (.k (.c (.int .i64 0))))] [2])
  .ret)
  (.seq (.reg [B 7 (.mv (.t 0)), B 8 (.nilck (.t 7)), B 9 (.fadr 7 (.t 8)), B 10 (.load false 1 (.t 9)), B 11 (.bin .nenil (.t 10) (.k (.c (.nilp)))), B 6 (.asg (.t 11))] [0, 6])
  (.cond (.t 6) (.seq (.reg [B 12 (.mv (.t 0)), B 13 (.nilck (.t 12)), B 14 (.fadr 5 (.t 13)), B 15 (.load false 1 (.t 14)), B 16 (.len (.t 15)), B 17 (.bin .add (.t 16) (.k (.c (.int .i64 1)))), B 2 (.asg (.t 17))] [2])
  .ret)
  .skip)))))
  (.seq (.reg [B 18 (.mv (.t 0)), B 19 (.nilck (.t 18)), B 20 (.fadr 5 (.t 19)), B 21 (.load false 1 (.t 20)), B 22 (.len (.t 21)), B 2 (.asg (.t 22))] [2])
  .ret)))
def r19 : List ARes := [.tmp 2]
theorem k19 : bChk Tryz.prog 19 Tryz.f19 1 c19 r19 = true := by kernel_rfl
theorem p19 : Tryz.prog.funcs[19]? = some Tryz.f19 := by kernel_rfl

/-- scrivener/client.New -/
def c20 : BCode :=
  (.seq (.reg [B 4 (.asg (.k (.c (.nilp)))), B 5 (.asg (.k (.c (.int .i64 0))))] [0, 1])
  (.seq (.seq (.reg [B 6 (.mv (.t 0)), B 7 (.bin .lt (.t 6) (.k (.c (.int .i64 1)))), B 8 (.mv (.t 7)), Bg 9 (.mv (.t 1)) 8 false, Bg 10 (.bin .lt (.t 9) (.k (.c (.int .i64 1)))) 8 false, B 11 (.pick (.t 8) (.k (.c (.bool true))) (.t 10)), B 12 (.mv (.t 11)), Bg 13 (.mv (.t 1)) 12 false, Bg 14 (.bin .gt (.t 13) (.k (.c (.int .i64 100)))) 12 false, B 15 (.pick (.t 12) (.k (.c (.bool true))) (.t 14))] [0, 1, 15])
  (.cond (.t 15) (.seq (.reg [B 4 (.asg (.k (.c (.nilp)))), B 5 (.asg (.k (.c (.int .i64 1))))] [4, 5])
  .ret)
  .skip))
  (.seq (.reg [B 16 (.mv (.t 0)), B 17 (.mv (.t 1)), B 18 (.build [.int .i64 0, .int .i64 0, .int .u64 0, .int .i64 0, .bool false, .sl 1 [] .nil, .int .i64 0, .nilp, .sl 1 [] .nil, .int .i64 0, .int .i64 0, .int .i64 0, .int .u8 0, .int .u8 0, .int .u8 0, .int .u8 0, .int .u8 0, .int .u8 0, .int .u8 0, .int .u8 0, .int .u8 0, .int .u8 0, .int .u8 0, .int .u8 0, .int .u8 0, .int .u8 0, .int .u8 0, .int .u8 0, .int .u8 0, .int .u8 0, .int .u8 0, .int .u8 0, .int .u8 0, .int .u8 0, .int .u8 0, .int .u8 0, .int .u8 0, .int .u8 0, .int .u8 0, .int .u8 0, .int .u8 0, .int .u8 0, .int .u8 0, .int .u8 0, .sl 5 [] .nil] [(0, 1, (.t 16)), (1, 1, (.t 17))]), B 19 (.box (.t 18)), B 4 (.asg (.t 19)), B 5 (.asg (.k (.c (.int .i64 0))))] [4, 5])
  .ret)))
def r20 : List ARes := [.tmp 4, .tmp 5]
theorem k20 : bChk Tryz.prog 20 Tryz.f20 2 c20 r20 = true := by kernel_rfl
theorem p20 : Tryz.prog.funcs[20]? = some Tryz.f20 := by kernel_rfl

/-- scrivener/scrivenerref25.Decode -/
def c21 : BCode :=
  (.seq (.reg [B 2 (.alloc [.int .i64 0, .int .i64 0, .sl 1 [] .nil, .str [], .sl 6 [] .nil, .int .u8 0, .int .u8 0, .int .u8 0, .int .u8 0, .int .u8 0, .int .u8 0, .int .u8 0, .int .u8 0, .int .u8 0, .int .u8 0, .int .u8 0, .int .u8 0, .int .u8 0, .int .u8 0, .int .u8 0, .int .u8 0, .int .u8 0, .int .u8 0, .int .u8 0, .int .u8 0, .int .u8 0, .int .u8 0, .int .u8 0, .int .u8 0, .int .u8 0, .int .u8 0, .int .u8 0, .int .u8 0, .int .u8 0, .int .u8 0, .int .u8 0, .int .u8 0]), B 3 (.asg (.k (.c (.int .i64 0))))] [0, 2])
  (.seq (.reg [B 8 (.mv (.t 0)), B 9 (.call 41 [(.t 8)]), B 7 (.mv (.t 9)), B 10 (.extract 0 (.t 7)), B 11 (.extract 1 (.t 7)), B 4 (.asg (.t 10)), B 5 (.asg (.t 11))] [2, 4, 5])
  (.seq (.seq (.reg [B 12 (.mv (.t 5)), B 13 (.bin .ne (.t 12) (.k (.c (.int .i64 0))))] [2, 4, 5, 13])
  (.cond (.t 13) (.seq (.reg [B 14 (.build [.int .i64 0, .int .i64 0, .sl 1 [] .nil, .str [], .sl 6 [] .nil, .int .u8 0, .int .u8 0, .int .u8 0, .int .u8 0, .int .u8 0, .int .u8 0, .int .u8 0, .int .u8 0, .int .u8 0, .int .u8 0, .int .u8 0, .int .u8 0, .int .u8 0, .int .u8 0, .int .u8 0, .int .u8 0, .int .u8 0, .int .u8 0, .int .u8 0, .int .u8 0, .int .u8 0, .int .u8 0, .int .u8 0, .int .u8 0, .int .u8 0, .int .u8 0, .int .u8 0, .int .u8 0, .int .u8 0, .int .u8 0, .int .u8 0, .int .u8 0] []), B 15 (.mv (.t 5)), Bn (.store 37 (.t 2) (.t 14)), B 3 (.asg (.t 15))] [2, 3])
  .ret)
  .skip))
  (.seq (.reg [B 6 (.alloc [.int .i64 0, .int .i64 0, .sl 1 [] .nil, .str [], .sl 6 [] .nil, .int .u8 0, .int .u8 0, .int .u8 0, .int .u8 0, .int .u8 0, .int .u8 0, .int .u8 0, .int .u8 0, .int .u8 0, .int .u8 0, .int .u8 0, .int .u8 0, .int .u8 0, .int .u8 0, .int .u8 0, .int .u8 0, .int .u8 0, .int .u8 0, .int .u8 0, .int .u8 0, .int .u8 0, .int .u8 0, .int .u8 0, .int .u8 0, .int .u8 0, .int .u8 0, .int .u8 0, .int .u8 0, .int .u8 0, .int .u8 0, .int .u8 0, .int .u8 0])] [2, 4, 6])
  (.seq (.reg [B 17 (.mv (.t 4)), B 18 (.call 42 [(.t 17), (.k (.c (.int .u8 81))), (.k (.c (.int .i64 1))), (.k (.c (.int .i64 20)))]), B 16 (.mv (.t 18)), B 19 (.extract 0 (.t 16)), B 20 (.extract 1 (.t 16)), B 21 (.extract 2 (.t 16)), B 22 (.fadr 0 (.t 6)), Bn (.store 1 (.t 22) (.t 19)), B 23 (.fadr 1 (.t 6)), Bn (.store 1 (.t 23) (.t 20)), B 24 (.fadr 2 (.t 6)), Bn (.store 1 (.t 24) (.t 21))] [2, 4, 6])
  (.seq (.reg [B 25 (.mv (.t 4)), B 26 (.mv (.t 4)), B 27 (.call 44 [(.t 26), (.k (.c (.int .i64 4096)))]), B 28 (.call 43 [(.t 25), (.t 27)]), B 29 (.bytess (.t 28)), B 30 (.fadr 3 (.t 6)), Bn (.store 1 (.t 30) (.t 29))] [2, 4, 6])
  (.seq (.reg [B 31 (.mv (.t 4)), B 32 (.call 45 [(.t 31), (.k (.c (.int .i64 40)))]), B 33 (.fadr 4 (.t 6)), Bn (.store 1 (.t 33) (.t 32))] [2, 4, 6])
  (.seq (.regd [Oo 34 (.fadr 5 (.t 6)), Oo 35 (.aslice 1 32 (.t 34)), Oo 36 (.mv (.t 4)), Oo 37 (.call 43 [(.t 36), (.k (.c (.int .i64 32)))]), Oo 38 (.cpy 1 (.t 35) (.t 37))]
    (.fl 0 (.fl 1 (.fl 2 (.ch 3 [] (.ch 4 [] .done))))) [2, 4, 6])
  (.seq (.seq (.reg [B 39 (.mv (.t 4)), B 40 (.nilck (.t 39)), B 41 (.fadr 1 (.t 40)), B 42 (.load false 1 (.t 41)), B 43 (.mv (.t 42)), Bg 44 (.mv (.t 4)) 43 false, Bg 45 (.nilck (.t 44)) 43 false, Bg 46 (.fadr 0 (.t 45)) 43 false, Bg 47 (.load false 1 (.t 46)) 43 false, Bg 48 (.len (.t 47)) 43 false, Bg 49 (.bin .gt (.t 48) (.k (.c (.int .i64 0)))) 43 false, B 50 (.pick (.t 43) (.k (.c (.bool true))) (.t 49))] [2, 6, 50])
  (.cond (.t 50) (.seq (.reg [B 51 (.build [.int .i64 0, .int .i64 0, .sl 1 [] .nil, .str [], .sl 6 [] .nil, .int .u8 0, .int .u8 0, .int .u8 0, .int .u8 0, .int .u8 0, .int .u8 0, .int .u8 0, .int .u8 0, .int .u8 0, .int .u8 0, .int .u8 0, .int .u8 0, .int .u8 0, .int .u8 0, .int .u8 0, .int .u8 0, .int .u8 0, .int .u8 0, .int .u8 0, .int .u8 0, .int .u8 0, .int .u8 0, .int .u8 0, .int .u8 0, .int .u8 0, .int .u8 0, .int .u8 0, .int .u8 0, .int .u8 0, .int .u8 0, .int .u8 0, .int .u8 0] []), Bn (.store 37 (.t 2) (.t 51)), B 3 (.asg (.k (.c (.int .i64 3))))] [2, 3])
  .ret)
  .skip))
  (.seq (.reg [B 52 (.load true 37 (.t 6)), Bn (.store 37 (.t 2) (.t 52)), B 3 (.asg (.k (.c (.int .i64 0))))] [2, 3])
  .ret))))))))))
def r21 : List ARes := [.cell 2 true 37, .tmp 3]
theorem k21 : bChk Tryz.prog 21 Tryz.f21 1 c21 r21 = true := by kernel_rfl
theorem p21 : Tryz.prog.funcs[21]? = some Tryz.f21 := by kernel_rfl

/-- (*scrivener/client.Client).Trust -/
def c22 : BCode :=
  (.seq (.reg [B 2 (.alloc [.int .i64 0, .int .u8 0, .int .u8 0, .int .u8 0, .int .u8 0, .int .u8 0, .int .u8 0, .int .u8 0, .int .u8 0, .int .u8 0, .int .u8 0, .int .u8 0, .int .u8 0, .int .u8 0, .int .u8 0, .int .u8 0, .int .u8 0, .int .u8 0, .int .u8 0, .int .u8 0, .int .u8 0, .int .u8 0, .int .u8 0, .int .u8 0, .int .u8 0, .int .u8 0, .int .u8 0, .int .u8 0, .int .u8 0, .int .u8 0, .int .u8 0, .int .u8 0, .int .u8 0])] [0, 2])
  (.seq (.seq (.reg [B 3 (.mv (.t 0)), B 4 (.bin .eqnil (.t 3) (.k (.c (.nilp))))] [0, 2, 4])
  (.cond (.t 4) (.seq (.reg [B 5 (.build [.int .i64 0, .int .u8 0, .int .u8 0, .int .u8 0, .int .u8 0, .int .u8 0, .int .u8 0, .int .u8 0, .int .u8 0, .int .u8 0, .int .u8 0, .int .u8 0, .int .u8 0, .int .u8 0, .int .u8 0, .int .u8 0, .int .u8 0, .int .u8 0, .int .u8 0, .int .u8 0, .int .u8 0, .int .u8 0, .int .u8 0, .int .u8 0, .int .u8 0, .int .u8 0, .int .u8 0, .int .u8 0, .int .u8 0, .int .u8 0, .int .u8 0, .int .u8 0, .int .u8 0] []), Bn (.store 33 (.t 2) (.t 5))] [2])
  .ret)
  .skip))
  (.seq (.reg [B 6 (.mv (.t 0)), B 7 (.nilck (.t 6)), B 8 (.fadr 11 (.t 7)), B 9 (.load true 33 (.t 8)), Bn (.store 33 (.t 2) (.t 9))] [2])
  .ret)))
def r22 : List ARes := [.cell 2 true 33]
theorem k22 : bChk Tryz.prog 22 Tryz.f22 1 c22 r22 = true := by kernel_rfl
theorem p22 : Tryz.prog.funcs[22]? = some Tryz.f22 := by kernel_rfl

/-- scrivener/scrivenerlaw27.great -/
def c24 : BCode :=
  (.seq (.reg [B 2 (.boxR (.t 0)), B 4 (.asg (.k (.c (.bool false))))] [1, 2])
  (.seq (.regd [Oo 6 (.mv (.t 1)), Oo 7 (.mv (.t 1)), Oo 8 (.nilck (.t 7)), Oo 9 (.load false 1 (.t 8)), Oo 10 (.bin .add (.t 9) (.k (.c (.int .i64 1)))), Oo 11 (.fadr 3 (.t 2)), Oo 12 (.load false 1 (.t 11)), Oo 13 (.slen (.t 12)), Oo 14 (.bin .quo (.t 13) (.k (.c (.int .i64 20)))), Oo 15 (.bin .add (.t 10) (.t 14)), Oo 16 (.fadr 4 (.t 2)), Oo 17 (.load false 1 (.t 16)), Oo 18 (.len (.t 17)), Oo 19 (.bin .add (.t 15) (.t 18)), Oo 20 (.nilck (.t 6)), On (.store 1 (.t 20) (.t 19))]
    (.fl 0 (.fl 1 (.fl 2 (.fl 3 (.fl 4 (.fl 5 (.fl 6 (.fl 7 (.fl 8 (.fl 9 (.fl 10 (.fl 11 (.fl 12 (.fl 13 (.fl 14 (.ch 15 [] .done)))))))))))))))) [1, 2])
  (.seq (.seq (.reg [B 5 (.asg (.k (.c (.int .i64 0))))] [1, 2, 5])
  (.block 0 (.loop (.seq (.seq (.reg [B 21 (.mv (.t 5)), B 22 (.fadr 5 (.t 2)), B 23 (.load false 1 (.t 22)), B 24 (.len (.t 23)), B 25 (.bin .lt (.t 21) (.t 24)), B 26 (.mv (.t 25)), Bg 27 (.mv (.t 1)) 26 true, Bg 28 (.nilck (.t 27)) 26 true, Bg 29 (.load false 1 (.t 28)) 26 true, Bg 30 (.bin .le (.t 29) (.k (.c (.int .i64 500)))) 26 true, B 31 (.pick (.t 26) (.t 30) (.k (.c (.bool false))))] [1, 2, 5, 31])
  (.cond (.t 31) .skip
  (.exit 0)))
  (.seq (.block 1 (.reg [B 34 (.fadr 5 (.t 2)), B 35 (.load false 1 (.t 34)), B 36 (.mv (.t 5)), B 37 (.iadr 6 (.t 35) (.t 36)), B 38 (.load true 6 (.t 37)), B 39 (.mv (.t 1)), B 40 (.call 24 [(.t 38), (.t 39)])] [1, 2, 5]))
  (.reg [B 32 (.mv (.t 5)), B 33 (.bin .add (.t 32) (.k (.c (.int .i64 1)))), B 5 (.asg (.t 33))] [1, 2, 5]))))))
  (.seq (.reg [B 41 (.mv (.t 1)), B 42 (.nilck (.t 41)), B 43 (.load false 1 (.t 42)), B 44 (.bin .gt (.t 43) (.k (.c (.int .i64 500)))), B 4 (.asg (.t 44))] [4])
  .ret))))
def r24 : List ARes := [.tmp 4]
theorem k24 : bChk Tryz.prog 24 Tryz.f24 2 c24 r24 = true := by kernel_rfl
theorem p24 : Tryz.prog.funcs[24]? = some Tryz.f24 := by kernel_rfl

/-- scrivener/scrivenerref27.New -/
def c25 : BCode :=
  (.seq (.reg [B 4 (.asg (.k (.c (.nilp)))), B 5 (.asg (.k (.c (.int .i64 0))))] [0, 1])
  (.seq (.seq (.reg [B 6 (.mv (.t 0)), B 7 (.bin .lt (.t 6) (.k (.c (.int .i64 1)))), B 8 (.mv (.t 7)), Bg 9 (.mv (.t 1)) 8 false, Bg 10 (.bin .lt (.t 9) (.k (.c (.int .i64 1)))) 8 false, B 11 (.pick (.t 8) (.k (.c (.bool true))) (.t 10)), B 12 (.mv (.t 11)), Bg 13 (.mv (.t 1)) 12 false, Bg 14 (.bin .gt (.t 13) (.k (.c (.int .i64 100)))) 12 false, B 15 (.pick (.t 12) (.k (.c (.bool true))) (.t 14))] [0, 1, 15])
  (.cond (.t 15) (.seq (.reg [B 4 (.asg (.k (.c (.nilp)))), B 5 (.asg (.k (.c (.int .i64 1))))] [4, 5])
  .ret)
  .skip))
  (.seq (.reg [B 16 (.mv (.t 0)), B 17 (.mv (.t 1)), B 18 (.build [.int .i64 0, .int .i64 0, .sl 1 [] .nil, .int .i64 0, .int .i64 0, .int .i64 0, .int .i64 0, .bool false, .int .i64 0, .int .u8 0, .int .u8 0, .int .u8 0, .int .u8 0, .int .u8 0, .int .u8 0, .int .u8 0, .int .u8 0, .int .u8 0, .int .u8 0, .int .u8 0, .int .u8 0, .int .u8 0, .int .u8 0, .int .u8 0, .int .u8 0, .int .u8 0, .int .u8 0, .int .u8 0, .int .u8 0, .int .u8 0, .int .u8 0, .int .u8 0, .int .u8 0, .int .u8 0, .int .u8 0, .int .u8 0, .int .u8 0, .int .u8 0, .int .u8 0, .int .u8 0, .int .u8 0, .sl 1 [] .nil, .int .i64 0, .int .i64 0, .int .i64 0, .sl 1 [] .nil, .int .i64 0, .int .i64 0, .int .i64 0, .int .u8 0, .int .u8 0, .int .u8 0, .int .u8 0, .int .u8 0, .int .u8 0, .int .u8 0, .int .u8 0, .int .u8 0, .int .u8 0, .int .u8 0, .int .u8 0, .int .u8 0, .int .u8 0, .int .u8 0, .int .u8 0, .int .u8 0, .int .u8 0, .int .u8 0, .int .u8 0, .int .u8 0, .int .u8 0, .int .u8 0, .int .u8 0, .int .u8 0, .int .u8 0, .int .u8 0, .int .u8 0, .int .u8 0, .int .u8 0, .int .u8 0, .int .u8 0, .int .i64 0, .int .u8 0, .int .u8 0, .int .u8 0, .int .u8 0, .int .u8 0, .int .u8 0, .int .u8 0, .int .u8 0, .int .u8 0, .int .u8 0, .int .u8 0, .int .u8 0, .int .u8 0, .int .u8 0, .int .u8 0, .int .u8 0, .int .u8 0, .int .u8 0, .int .u8 0, .int .u8 0, .int .u8 0, .int .u8 0, .int .u8 0, .int .u8 0, .int .u8 0, .int .u8 0, .int .u8 0, .int .u8 0, .int .u8 0, .int .u8 0, .int .u8 0, .int .u8 0] [(0, 1, (.t 16)), (1, 1, (.t 17))]), B 19 (.box (.t 18)), B 4 (.asg (.t 19)), B 5 (.asg (.k (.c (.int .i64 0))))] [4, 5])
  .ret)))
def r25 : List ARes := [.tmp 4, .tmp 5]
theorem k25 : bChk Tryz.prog 25 Tryz.f25 2 c25 r25 = true := by kernel_rfl
theorem p25 : Tryz.prog.funcs[25]? = some Tryz.f25 := by kernel_rfl

/-- scrivener/scrivenerref3.New -/
def c26 : BCode :=
  (.seq (.reg [B 2 (.asg (.k (.c (.nilp)))), B 3 (.asg (.k (.c (.int .i64 0))))] [0])
  (.seq (.seq (.reg [B 4 (.mv (.t 0)), B 5 (.bin .lt (.t 4) (.k (.c (.int .i64 0)))), B 6 (.mv (.t 5)), Bg 7 (.mv (.t 0)) 6 false, Bg 8 (.bin .gt (.t 7) (.k (.c (.int .i64 1073741824)))) 6 false, B 9 (.pick (.t 6) (.k (.c (.bool true))) (.t 8))] [0, 9])
  (.cond (.t 9) (.seq (.reg [B 2 (.asg (.k (.c (.nilp)))), B 3 (.asg (.k (.c (.int .i64 1))))] [2, 3])
  .ret)
  .skip))
  (.seq (.reg [B 10 (.mv (.t 0)), B 11 (.build [.int .i64 0, .sl 3 [] .nil, .int .i64 0] [(0, 1, (.t 10)), (2, 1, (.k (.c (.int .i64 (-1)))))]), B 12 (.box (.t 11)), B 2 (.asg (.t 12)), B 3 (.asg (.k (.c (.int .i64 0))))] [2, 3])
  .ret)))
def r26 : List ARes := [.tmp 2, .tmp 3]
theorem k26 : bChk Tryz.prog 26 Tryz.f26 1 c26 r26 = true := by kernel_rfl
theorem p26 : Tryz.prog.funcs[26]? = some Tryz.f26 := by kernel_rfl

/-- scrivener/scrivenerref26.Open -/
def c27 : BCode :=
  (.seq (.reg [B 3 (.boxR (.t 1)), B 4 (.asg (.k (.c (.nilp)))), B 5 (.asg (.k (.c (.int .i64 0))))] [0, 3])
  (.seq (.reg [B 9 (.mv (.t 0)), B 10 (.load true 2 (.t 3)), B 11 (.call 51 [(.t 9), (.t 10)]), B 8 (.mv (.t 11)), B 12 (.extract 0 (.t 8)), B 13 (.extract 1 (.t 8)), B 6 (.asg (.t 12)), B 7 (.asg (.t 13))] [6, 7])
  (.seq (.seq (.reg [B 14 (.mv (.t 7)), B 15 (.bin .ne (.t 14) (.k (.c (.int .i64 0))))] [6, 7, 15])
  (.cond (.t 15) (.seq (.reg [B 16 (.mv (.t 7)), B 4 (.asg (.k (.c (.nilp)))), B 5 (.asg (.t 16))] [4, 5])
  .ret)
  .skip))
  (.seq (.reg [B 17 (.mv (.t 6)), B 18 (.mkmap), B 19 (.build [.nilp, .sl 3 [] .nil, .sl 3 [] .nil, .nilmap] [(0, 1, (.t 17)), (3, 1, (.t 18))]), B 20 (.box (.t 19)), B 4 (.asg (.t 20)), B 5 (.asg (.k (.c (.int .i64 0))))] [4, 5])
  .ret))))
def r27 : List ARes := [.tmp 4, .tmp 5]
theorem k27 : bChk Tryz.prog 27 Tryz.f27 2 c27 r27 = true := by kernel_rfl
theorem p27 : Tryz.prog.funcs[27]? = some Tryz.f27 := by kernel_rfl

/-- scrivener/wire.Encode -/
def c28 : BCode :=
  (.seq (.reg [B 1 (.boxR (.t 0)), B 2 (.asg (.k (.c (.sl 1 [] .nil)))), B 3 (.asg (.k (.c (.int .i64 0))))] [1])
  (.seq (.block 0 (.seq (.reg [B 7 (.fadr 0 (.t 1)), B 8 (.load false 1 (.t 7)), B 9 (.bin .lt (.t 8) (.k (.c (.int .i64 1)))), B 10 (.mv (.t 9)), Bg 11 (.fadr 0 (.t 1)) 10 false, Bg 12 (.load false 1 (.t 11)) 10 false, Bg 13 (.bin .gt (.t 12) (.k (.c (.int .i64 20)))) 10 false, B 14 (.pick (.t 10) (.k (.c (.bool true))) (.t 13)), B 15 (.mv (.t 14)), Bg 16 (.fadr 1 (.t 1)) 15 false, Bg 17 (.load false 1 (.t 16)) 15 false, Bg 18 (.bin .lt (.t 17) (.k (.c (.int .i64 0)))) 15 false, B 19 (.pick (.t 15) (.k (.c (.bool true))) (.t 18)), B 20 (.mv (.t 19)), Bg 21 (.fadr 1 (.t 1)) 20 false, Bg 22 (.load false 1 (.t 21)) 20 false, Bg 23 (.bin .gt (.t 22) (.k (.c (.int .i64 9007199254740992)))) 20 false, B 24 (.pick (.t 20) (.k (.c (.bool true))) (.t 23)), B 25 (.mv (.t 24)), Bg 26 (.fadr 2 (.t 1)) 25 false, Bg 27 (.load false 1 (.t 26)) 25 false, Bg 28 (.len (.t 27)) 25 false, Bg 29 (.bin .gt (.t 28) (.k (.c (.int .i64 8)))) 25 false, B 30 (.pick (.t 25) (.k (.c (.bool true))) (.t 29)), B 6 (.asg (.t 30))] [1, 6])
  (.cond (.t 6) (.seq (.reg [B 2 (.asg (.k (.c (.sl 1 [] .nil)))), B 3 (.asg (.k (.c (.int .i64 1))))] [2, 3])
  .ret)
  (.seq (.reg [B 32 (.fadr 3 (.t 1)), B 33 (.load false 1 (.t 32)), B 34 (.slen (.t 33)), B 35 (.bin .gt (.t 34) (.k (.c (.int .i64 4096)))), B 36 (.mv (.t 35)), Bg 37 (.fadr 4 (.t 1)) 36 false, Bg 38 (.load false 1 (.t 37)) 36 false, Bg 39 (.len (.t 38)) 36 false, Bg 40 (.bin .gt (.t 39) (.k (.c (.int .i64 40)))) 36 false, B 41 (.pick (.t 36) (.k (.c (.bool true))) (.t 40)), B 31 (.asg (.t 41))] [1, 31])
  (.cond (.t 31) (.seq (.reg [B 2 (.asg (.k (.c (.sl 1 [] .nil)))), B 3 (.asg (.k (.c (.int .i64 5))))] [2, 3])
  .ret)
  .skip)))))
  (.seq (.reg [B 42 (.fadr 0 (.t 1)), B 43 (.load false 1 (.t 42)), B 44 (.conv .u8 (.t 43)), B 45 (.fadr 1 (.t 1)), B 46 (.load false 1 (.t 45)), B 47 (.fadr 2 (.t 1)), B 48 (.load false 1 (.t 47)), B 49 (.call 52 [(.k (.c (.int .u8 81))), (.t 44), (.t 46), (.t 48)]), B 4 (.asg (.t 49))] [1, 4])
  (.seq (.regd [Oo 51 (.mv (.t 4)), Oo 52 (.fadr 3 (.t 1)), Oo 53 (.load false 1 (.t 52)), Oo 54 (.slen (.t 53)), Oo 55 (.call 54 [(.t 51), (.t 54)]), Oo 56 (.fadr 3 (.t 1)), Oo 57 (.load false 1 (.t 56)), Oo 58 (.app 1 1 (.t 55) (.t 57)), Oo 59 (.fadr 4 (.t 1)), Oo 60 (.load false 1 (.t 59)), Oo 61 (.call 53 [(.t 58), (.t 60)]), Oo 50 (.mv (.t 61)), Oo 62 (.extract 0 (.t 50)), Oo 63 (.extract 1 (.t 50)), Oo 4 (.asg (.t 62)), Oo 5 (.asg (.t 63))]
    (.fl 0 (.fl 1 (.fl 2 (.fl 3 (.fl 5 (.fl 6 (.fl 8 (.fl 9 (.ch 4 [6, 9] (.ch 7 [9] (.ch 10 [] (.fl 11 (.fl 12 (.fl 13 (.ch 14 [] (.ch 15 [] .done)))))))))))))))) [1, 4, 5])
  (.seq (.seq (.reg [B 64 (.mv (.t 5)), B 65 (.bin .ne (.t 64) (.k (.c (.int .i64 0))))] [1, 4, 5, 65])
  (.cond (.t 65) (.seq (.reg [B 66 (.mv (.t 5)), B 2 (.asg (.k (.c (.sl 1 [] .nil)))), B 3 (.asg (.t 66))] [2, 3])
  .ret)
  .skip))
  (.seq (.reg [B 67 (.mv (.t 4)), B 68 (.fadr 5 (.t 1)), B 69 (.aslice 1 32 (.t 68)), B 70 (.app 1 1 (.t 67) (.t 69)), B 71 (.call 55 [(.t 70)]), B 72 (.extract 0 (.t 71)), B 73 (.extract 1 (.t 71)), B 2 (.asg (.t 72)), B 3 (.asg (.t 73))] [2, 3])
  .ret))))))
def r28 : List ARes := [.tmp 2, .tmp 3]
theorem k28 : bChk Tryz.prog 28 Tryz.f28 1 c28 r28 = true := by kernel_rfl
theorem p28 : Tryz.prog.funcs[28]? = some Tryz.f28 := by kernel_rfl

/-- scrivener/client.values -/
def c29 : BCode :=
  (.seq (.reg [B 2 (.asg (.k (.c (.sl 6 [] .nil))))] [0])
  (.seq (.reg [B 3 (.asg (.k (.c (.sl 6 [] .nil))))] [0, 3])
  (.seq (.seq (.reg [B 6 (.mv (.t 0)), B 7 (.len (.t 6)), B 8 (.mv (.k (.c (.int .i64 0))))] [3, 6, 7, 8])
  (.block 0 (.loop (.seq (.reg [B 9 (.bin .lt (.t 8) (.t 7))] [3, 6, 7, 8, 9])
  (.seq (.cond (.t 9) .skip
  (.exit 0))
  (.seq (.block 1 (.seq (.reg [B 10 (.iadr 6 (.t 6) (.t 8)), B 11 (.load true 6 (.t 10)), B 5 (.alloc [.int .i64 0, .int .i64 0, .int .i64 0, .str [], .sl 1 [] .nil, .sl 6 [] .nil]), Bn (.store 6 (.t 5) (.t 11))] [3, 5, 6, 7, 8])
  (.reg [B 12 (.mv (.t 3)), B 13 (.load true 6 (.t 5)), B 14 (.call 56 [(.t 13)]), B 15 (.slR 6 1 [.int .i64 0, .int .i64 0, .int .i64 0, .str [], .sl 1 [] .nil, .sl 6 [] .nil] [(0, 6, (.t 14))]), B 16 (.app 6 88 (.t 12) (.t 15)), B 3 (.asg (.t 16))] [3, 6, 7, 8])))
  (.reg [B 17 (.bin .add (.t 8) (.k (.c (.int .i64 1)))), B 8 (.mv (.t 17))] [3, 6, 7, 8])))))))
  (.seq (.reg [B 18 (.mv (.t 3)), B 2 (.asg (.t 18))] [2])
  .ret))))
def r29 : List ARes := [.tmp 2]
theorem k29 : bChk Tryz.prog 29 Tryz.f29 1 c29 r29 = true := by kernel_rfl
theorem p29 : Tryz.prog.funcs[29]? = some Tryz.f29 := by kernel_rfl

/-- scrivener/scrivenerref5.Clone -/
def c31 : BCode :=
  (.seq (.reg [B 1 (.box (.t 0)), B 2 (.alloc [.int .i64 0, .int .i64 0, .int .i64 0, .str [], .sl 1 [] .nil, .sl 6 [] .nil])] [1, 2])
  (.seq (.reg [B 5 (.slE 1), B 6 (.fadr 4 (.t 1)), B 7 (.load false 1 (.t 6)), B 8 (.app 1 16 (.t 5) (.t 7)), B 9 (.fadr 4 (.t 1)), Bn (.store 1 (.t 9) (.t 8))] [1, 2])
  (.seq (.reg [B 3 (.asg (.k (.c (.sl 6 [] .nil))))] [1, 2, 3])
  (.seq (.seq (.reg [B 4 (.asg (.k (.c (.int .i64 0))))] [1, 2, 3, 4])
  (.block 0 (.loop (.seq (.seq (.reg [B 10 (.mv (.t 4)), B 11 (.fadr 5 (.t 1)), B 12 (.load false 1 (.t 11)), B 13 (.len (.t 12)), B 14 (.bin .lt (.t 10) (.t 13))] [1, 2, 3, 4, 14])
  (.cond (.t 14) .skip
  (.exit 0)))
  (.seq (.block 1 (.reg [B 17 (.mv (.t 3)), B 18 (.fadr 5 (.t 1)), B 19 (.load false 1 (.t 18)), B 20 (.mv (.t 4)), B 21 (.iadr 6 (.t 19) (.t 20)), B 22 (.load true 6 (.t 21)), B 23 (.call 31 [(.t 22)]), B 24 (.slR 6 1 [.int .i64 0, .int .i64 0, .int .i64 0, .str [], .sl 1 [] .nil, .sl 6 [] .nil] [(0, 6, (.t 23))]), B 25 (.app 6 88 (.t 17) (.t 24)), B 3 (.asg (.t 25))] [1, 2, 3, 4]))
  (.reg [B 15 (.mv (.t 4)), B 16 (.bin .add (.t 15) (.k (.c (.int .i64 1)))), B 4 (.asg (.t 16))] [1, 2, 3, 4]))))))
  (.seq (.reg [B 26 (.mv (.t 3)), B 27 (.fadr 5 (.t 1)), Bn (.store 1 (.t 27) (.t 26))] [1, 2])
  (.seq (.reg [B 28 (.load true 6 (.t 1)), Bn (.store 6 (.t 2) (.t 28))] [2])
  .ret))))))
def r31 : List ARes := [.cell 2 true 6]
theorem k31 : bChk Tryz.prog 31 Tryz.f31 1 c31 r31 = true := by kernel_rfl
theorem p31 : Tryz.prog.funcs[31]? = some Tryz.f31 := by kernel_rfl

/-- scrivener/scrivenerref4.Encode -/
def c34 : BCode :=
  (.seq (.reg [B 2 (.asg (.k (.c (.sl 1 [] .nil)))), B 3 (.asg (.k (.c (.int .i64 0))))] [0])
  (.seq (.seq (.reg [B 5 (.mv (.t 0)), B 6 (.len (.t 5)), B 7 (.bin .gt (.t 6) (.k (.c (.int .i64 524288))))] [0, 7])
  (.cond (.t 7) (.seq (.reg [B 2 (.asg (.k (.c (.sl 1 [] .nil)))), B 3 (.asg (.k (.c (.int .i64 5))))] [2, 3])
  .ret)
  .skip))
  (.seq (.reg [B 8 (.mv (.t 0)), B 9 (.len (.t 8)), B 10 (.conv .u32 (.t 9)), B 11 (.call 60 [(.t 10)]), B 4 (.asg (.t 11))] [0, 4])
  (.seq (.reg [B 12 (.mv (.t 4)), B 13 (.mv (.t 4)), B 14 (.call 61 [(.t 13)]), B 15 (.call 60 [(.t 14)]), B 16 (.app 1 1 (.t 12) (.t 15)), B 4 (.asg (.t 16))] [0, 4])
  (.seq (.reg [B 17 (.mv (.t 4)), B 18 (.mv (.t 0)), B 19 (.app 1 1 (.t 17) (.t 18)), B 4 (.asg (.t 19))] [4])
  (.seq (.reg [B 20 (.mv (.t 4)), B 21 (.mv (.t 4)), B 22 (.call 61 [(.t 21)]), B 23 (.call 60 [(.t 22)]), B 24 (.app 1 1 (.t 20) (.t 23)), B 2 (.asg (.t 24)), B 3 (.asg (.k (.c (.int .i64 0))))] [2, 3])
  .ret))))))
def r34 : List ARes := [.tmp 2, .tmp 3]
theorem k34 : bChk Tryz.prog 34 Tryz.f34 1 c34 r34 = true := by kernel_rfl
theorem p34 : Tryz.prog.funcs[34]? = some Tryz.f34 := by kernel_rfl

/-- scrivener/wire.DecodeReply -/
def c36 : BCode :=
  (.seq (.reg [B 2 (.alloc [.int .i64 0, .int .i64 0, .sl 1 [] .nil, .sl 6 [] .nil, .sl 1 [] .nil]), B 3 (.asg (.k (.c (.int .i64 0))))] [0, 2])
  (.seq (.reg [B 8 (.mv (.t 0)), B 9 (.call 62 [(.t 8)]), B 7 (.mv (.t 9)), B 10 (.extract 0 (.t 7)), B 11 (.extract 1 (.t 7)), B 4 (.asg (.t 10)), B 5 (.asg (.t 11))] [2, 4, 5])
  (.seq (.seq (.reg [B 12 (.mv (.t 5)), B 13 (.bin .ne (.t 12) (.k (.c (.int .i64 0))))] [2, 4, 5, 13])
  (.cond (.t 13) (.seq (.reg [B 14 (.build [.int .i64 0, .int .i64 0, .sl 1 [] .nil, .sl 6 [] .nil, .sl 1 [] .nil] []), B 15 (.mv (.t 5)), Bn (.store 5 (.t 2) (.t 14)), B 3 (.asg (.t 15))] [2, 3])
  .ret)
  .skip))
  (.seq (.reg [B 6 (.alloc [.int .i64 0, .int .i64 0, .sl 1 [] .nil, .sl 6 [] .nil, .sl 1 [] .nil])] [2, 4, 6])
  (.seq (.reg [B 16 (.mv (.t 4)), B 17 (.mv (.t 4)), B 18 (.call 63 [(.t 17)]), B 19 (.bin .ne (.t 18) (.k (.c (.int .u8 82)))), B 20 (.mv (.t 19)), Bg 21 (.mv (.t 4)) 20 false, Bg 22 (.nilck (.t 21)) 20 false, Bg 23 (.fadr 1 (.t 22)) 20 false, Bg 24 (.load false 1 (.t 23)) 20 false, B 25 (.pick (.t 20) (.k (.c (.bool true))) (.t 24)), B 26 (.nilck (.t 16)), B 27 (.fadr 1 (.t 26)), Bn (.store 1 (.t 27) (.t 25))] [2, 4, 6])
  (.seq (.reg [B 28 (.mv (.t 4)), B 29 (.call 63 [(.t 28)]), B 30 (.conv .i64 (.t 29)), B 31 (.fadr 1 (.t 6)), Bn (.store 1 (.t 31) (.t 30))] [2, 4, 6])
  (.seq (.reg [B 32 (.mv (.t 4)), B 33 (.call 64 [(.t 32), (.k (.c (.int .i64 9007199254740992)))]), B 34 (.fadr 0 (.t 6)), Bn (.store 1 (.t 34) (.t 33))] [2, 4, 6])
  (.seq (.reg [B 35 (.mv (.t 4)), B 36 (.call 65 [(.t 35)]), B 37 (.fadr 2 (.t 6)), Bn (.store 1 (.t 37) (.t 36))] [2, 4, 6])
  (.seq (.reg [B 38 (.mv (.t 4)), B 39 (.call 66 [(.t 38), (.k (.c (.int .i64 4096)))]), B 40 (.fadr 3 (.t 6)), Bn (.store 1 (.t 40) (.t 39))] [2, 4, 6])
  (.seq (.reg [B 41 (.mv (.t 4)), B 42 (.mv (.t 4)), B 43 (.call 64 [(.t 42), (.k (.c (.int .i64 524288)))]), B 44 (.call 67 [(.t 41), (.t 43)]), B 45 (.app 1 1 (.k (.c (.sl 1 [] .nil))) (.t 44)), B 46 (.fadr 4 (.t 6)), Bn (.store 1 (.t 46) (.t 45))] [2, 4, 6])
  (.seq (.seq (.reg [B 47 (.mv (.t 4)), B 48 (.nilck (.t 47)), B 49 (.fadr 1 (.t 48)), B 50 (.load false 1 (.t 49)), B 51 (.mv (.t 50)), Bg 52 (.mv (.t 4)) 51 false, Bg 53 (.nilck (.t 52)) 51 false, Bg 54 (.fadr 0 (.t 53)) 51 false, Bg 55 (.load false 1 (.t 54)) 51 false, Bg 56 (.len (.t 55)) 51 false, Bg 57 (.bin .gt (.t 56) (.k (.c (.int .i64 0)))) 51 false, B 58 (.pick (.t 51) (.k (.c (.bool true))) (.t 57)), B 59 (.mv (.t 58)), Bg 60 (.fadr 1 (.t 6)) 59 false, Bg 61 (.load false 1 (.t 60)) 59 false, Bg 62 (.bin .gt (.t 61) (.k (.c (.int .i64 100)))) 59 false, B 63 (.pick (.t 59) (.k (.c (.bool true))) (.t 62))] [2, 6, 63])
  (.cond (.t 63) (.seq (.reg [B 64 (.build [.int .i64 0, .int .i64 0, .sl 1 [] .nil, .sl 6 [] .nil, .sl 1 [] .nil] []), Bn (.store 5 (.t 2) (.t 64)), B 3 (.asg (.k (.c (.int .i64 3))))] [2, 3])
  .ret)
  .skip))
  (.seq (.reg [B 65 (.load true 5 (.t 6)), Bn (.store 5 (.t 2) (.t 65)), B 3 (.asg (.k (.c (.int .i64 0))))] [2, 3])
  .ret))))))))))))
def r36 : List ARes := [.cell 2 true 5, .tmp 3]
theorem k36 : bChk Tryz.prog 36 Tryz.f36 1 c36 r36 = true := by kernel_rfl
theorem p36 : Tryz.prog.funcs[36]? = some Tryz.f36 := by kernel_rfl

/-- (*scrivener/client.Client).told -/
def c37 : BCode :=
  (.seq (.reg [B 2 (.asg (.k (.c (.sl 5 [] .nil))))] [0])
  (.seq (.reg [B 4 (.mv (.t 0)), B 5 (.nilck (.t 4)), B 6 (.fadr 44 (.t 5)), B 7 (.load false 1 (.t 6)), B 3 (.asg (.t 7))] [0, 3])
  (.seq (.reg [B 8 (.mv (.t 0)), B 9 (.nilck (.t 8)), B 10 (.fadr 44 (.t 9)), Bn (.store 1 (.t 10) (.k (.c (.sl 5 [] .nil))))] [3])
  (.seq (.reg [B 11 (.mv (.t 3)), B 2 (.asg (.t 11))] [2])
  .ret))))
def r37 : List ARes := [.tmp 2]
theorem k37 : bChk Tryz.prog 37 Tryz.f37 1 c37 r37 = true := by kernel_rfl
theorem p37 : Tryz.prog.funcs[37]? = some Tryz.f37 := by kernel_rfl

/-- (*scrivener/client.Client).begins -/
def c38 : BCode :=
  (.seq (.reg [B 2 (.asg (.k (.c (.sl 3 [] .nil))))] [0])
  (.seq (.seq (.reg [B 3 (.mv (.t 0)), B 4 (.nilck (.t 3)), B 5 (.fadr 4 (.t 4)), B 6 (.load false 1 (.t 5)), B 7 (.not (.t 6))] [0, 7])
  (.cond (.t 7) (.seq (.reg [B 8 (.mv (.t 0)), B 9 (.build [.int .i64 0, .int .i64 0, .sl 1 [] .nil, .str [], .sl 6 [] .nil, .int .u8 0, .int .u8 0, .int .u8 0, .int .u8 0, .int .u8 0, .int .u8 0, .int .u8 0, .int .u8 0, .int .u8 0, .int .u8 0, .int .u8 0, .int .u8 0, .int .u8 0, .int .u8 0, .int .u8 0, .int .u8 0, .int .u8 0, .int .u8 0, .int .u8 0, .int .u8 0, .int .u8 0, .int .u8 0, .int .u8 0, .int .u8 0, .int .u8 0, .int .u8 0, .int .u8 0, .int .u8 0, .int .u8 0, .int .u8 0, .int .u8 0, .int .u8 0] [(0, 1, (.k (.c (.int .i64 1))))]), B 10 (.mv (.t 0)), B 11 (.mkbfn 69 [(.t 10)]), B 12 (.call 68 [(.t 8), (.t 9), (.t 11)]), B 2 (.asg (.t 12))] [2])
  .ret)
  .skip))
  (.seq (.reg [B 13 (.mv (.t 0)), B 14 (.mv (.t 0)), B 15 (.nilck (.t 14)), B 16 (.fadr 3 (.t 15)), B 17 (.load false 1 (.t 16)), B 18 (.slR 1 1 [.int .i64 0] [(0, 1, (.t 17))]), B 19 (.build [.int .i64 0, .int .i64 0, .sl 1 [] .nil, .str [], .sl 6 [] .nil, .int .u8 0, .int .u8 0, .int .u8 0, .int .u8 0, .int .u8 0, .int .u8 0, .int .u8 0, .int .u8 0, .int .u8 0, .int .u8 0, .int .u8 0, .int .u8 0, .int .u8 0, .int .u8 0, .int .u8 0, .int .u8 0, .int .u8 0, .int .u8 0, .int .u8 0, .int .u8 0, .int .u8 0, .int .u8 0, .int .u8 0, .int .u8 0, .int .u8 0, .int .u8 0, .int .u8 0, .int .u8 0, .int .u8 0, .int .u8 0, .int .u8 0, .int .u8 0] [(0, 1, (.k (.c (.int .i64 3)))), (2, 1, (.t 18))]), B 20 (.mv (.t 0)), B 21 (.mkbfn 70 [(.t 20)]), B 22 (.call 68 [(.t 13), (.t 19), (.t 21)]), B 2 (.asg (.t 22))] [2])
  .ret)))
def r38 : List ARes := [.tmp 2]
theorem k38 : bChk Tryz.prog 38 Tryz.f38 1 c38 r38 = true := by kernel_rfl
theorem p38 : Tryz.prog.funcs[38]? = some Tryz.f38 := by kernel_rfl

/-- (*scrivener/client.Client).ends -/
def c39 : BCode :=
  (.seq (.reg [B 6 (.mv (.t 0)), B 7 (.nilck (.t 6)), B 8 (.fadr 7 (.t 7)), B 9 (.load false 1 (.t 8)), B 4 (.asg (.t 9))] [0, 1, 4])
  (.seq (.reg [B 10 (.mv (.t 4)), B 11 (.nilck (.t 10)), B 12 (.fadr 0 (.t 11)), B 13 (.load false 1 (.t 12)), B 14 (.mv (.t 1)), B 15 (.build [.int .i64 0, .int .i64 0, .sl 1 [] .nil, .int .i64 0, .int .i64 0] [(0, 1, (.t 13)), (1, 1, (.t 14)), (3, 1, (.k (.c (.int .i64 (-1)))))]), B 5 (.alloc [.int .i64 0, .int .i64 0, .sl 1 [] .nil, .int .i64 0, .int .i64 0]), Bn (.store 5 (.t 5) (.t 15))] [0, 1, 4, 5])
  (.seq (.seq (.reg [B 16 (.mv (.t 1)), B 17 (.bin .eq (.t 16) (.k (.c (.int .i64 0)))), B 18 (.mv (.t 17)), Bg 19 (.mv (.t 1)) 18 false, Bg 20 (.bin .eq (.t 19) (.k (.c (.int .i64 19)))) 18 false, Bg 21 (.mv (.t 20)) 18 false, Bg 22 (.mv (.t 4)) 21 true, Bg 23 (.nilck (.t 22)) 21 true, Bg 24 (.fadr 37 (.t 23)) 21 true, Bg 25 (.load false 1 (.t 24)) 21 true, Bg 26 (.pick (.t 21) (.t 25) (.k (.c (.bool false)))) 18 false, B 27 (.pick (.t 18) (.k (.c (.bool true))) (.t 26))] [0, 4, 5, 27])
  (.cond (.t 27) (.regd [Oo 28 (.mv (.t 4)), Oo 29 (.nilck (.t 28)), Oo 30 (.fadr 36 (.t 29)), Oo 31 (.load false 1 (.t 30)), Oo 32 (.mv (.t 4)), Oo 33 (.nilck (.t 32)), Oo 34 (.fadr 38 (.t 33)), Oo 35 (.load false 1 (.t 34)), Oo 36 (.mv (.t 4)), Oo 37 (.nilck (.t 36)), Oo 38 (.fadr 3 (.t 37)), Oo 39 (.load false 1 (.t 38)), Oo 40 (.fadr 2 (.t 5)), On (.store 1 (.t 40) (.t 31)), Oo 41 (.fadr 3 (.t 5)), On (.store 1 (.t 41) (.t 35)), Oo 42 (.fadr 4 (.t 5)), On (.store 1 (.t 42) (.t 39))]
    (.fl 0 (.fl 1 (.fl 2 (.fl 3 (.fl 4 (.fl 5 (.fl 6 (.fl 7 (.fl 8 (.fl 9 (.fl 10 (.fl 11 (.fl 12 (.ch 13 [7, 11] (.fl 14 (.ch 15 [11] (.fl 16 (.ch 17 [] .done)))))))))))))))))) [0, 5])
  .skip))
  (.seq (.regd [Oo 43 (.mv (.t 0)), Oo 44 (.mv (.t 0)), Oo 45 (.nilck (.t 44)), Oo 46 (.fadr 44 (.t 45)), Oo 47 (.load false 1 (.t 46)), Oo 48 (.load true 5 (.t 5)), Oo 49 (.slR 5 1 [.int .i64 0, .int .i64 0, .sl 1 [] .nil, .int .i64 0, .int .i64 0] [(0, 5, (.t 48))]), Oo 50 (.app 5 56 (.t 47) (.t 49)), Oo 51 (.nilck (.t 43)), Oo 52 (.fadr 44 (.t 51)), On (.store 1 (.t 52) (.t 50))]
    (.fl 0 (.fl 1 (.fl 2 (.fl 3 (.fl 4 (.fl 5 (.fl 6 (.ch 7 [] (.fl 8 (.fl 9 (.ch 10 [] .done))))))))))) [0])
  (.reg [B 53 (.mv (.t 0)), B 54 (.mv (.t 0)), B 55 (.nilck (.t 53)), B 56 (.fadr 7 (.t 55)), Bn (.store 1 (.t 56) (.k (.c (.nilp)))), B 57 (.nilck (.t 54)), B 58 (.fadr 8 (.t 57)), Bn (.store 1 (.t 58) (.k (.c (.sl 1 [] .nil))))] [])))))
def r39 : List ARes := []
theorem k39 : bChk Tryz.prog 39 Tryz.f39 2 c39 r39 = true := by kernel_rfl
theorem p39 : Tryz.prog.funcs[39]? = some Tryz.f39 := by kernel_rfl

/-- (*scrivener/client.Client).sent -/
def c40 : BCode :=
  (.seq (.reg [B 2 (.asg (.k (.c (.sl 3 [] .nil))))] [0])
  (.seq (.regd [Oo 3 (.mv (.t 0)), Oo 4 (.nilck (.t 3)), Oo 5 (.fadr 0 (.t 4)), Oo 6 (.load false 1 (.t 5)), Oo 7 (.mv (.t 0)), Oo 8 (.nilck (.t 7)), Oo 9 (.fadr 8 (.t 8)), Oo 10 (.load false 1 (.t 9)), Oo 11 (.call 71 [(.t 10)]), Oo 12 (.build [.int .i64 0, .int .i64 0, .sl 1 [] .nil] [(0, 1, (.t 6)), (2, 1, (.t 11))]), Oo 13 (.slR 3 1 [.int .i64 0, .int .i64 0, .sl 1 [] .nil] [(0, 3, (.t 12))]), Oo 2 (.asg (.t 13))]
    (.fl 0 (.fl 1 (.fl 2 (.fl 3 (.fl 4 (.fl 5 (.fl 6 (.fl 7 (.ch 8 [3] (.fl 9 (.fl 10 (.ch 11 [] .done)))))))))))) [2])
  .ret))
def r40 : List ARes := [.tmp 2]
theorem k40 : bChk Tryz.prog 40 Tryz.f40 1 c40 r40 = true := by kernel_rfl
theorem p40 : Tryz.prog.funcs[40]? = some Tryz.f40 := by kernel_rfl

/-- scrivener/scrivenerref25.open -/
def c41 : BCode :=
  (.seq (.reg [B 2 (.asg (.k (.c (.nilp)))), B 3 (.asg (.k (.c (.int .i64 0))))] [0])
  (.seq (.reg [B 8 (.mv (.t 0)), B 9 (.call 72 [(.t 8)]), B 7 (.mv (.t 9)), B 10 (.extract 0 (.t 7)), B 11 (.extract 1 (.t 7)), B 12 (.extract 2 (.t 7)), B 4 (.asg (.t 10)), B 5 (.asg (.t 11)), B 6 (.asg (.t 12))] [0, 4, 5, 6])
  (.seq (.seq (.reg [B 13 (.mv (.t 6)), B 14 (.bin .ne (.t 13) (.k (.c (.int .i64 0))))] [0, 4, 5, 6, 14])
  (.cond (.t 14) (.seq (.reg [B 15 (.mv (.t 6)), B 2 (.asg (.k (.c (.nilp)))), B 3 (.asg (.t 15))] [2, 3])
  .ret)
  .skip))
  (.seq (.seq (.reg [B 16 (.mv (.t 5)), B 17 (.mv (.t 0)), B 18 (.len (.t 17)), B 19 (.bin .ne (.t 16) (.t 18))] [4, 19])
  (.cond (.t 19) (.seq (.reg [B 2 (.asg (.k (.c (.nilp)))), B 3 (.asg (.k (.c (.int .i64 3))))] [2, 3])
  .ret)
  .skip))
  (.seq (.reg [B 20 (.mv (.t 4)), B 21 (.build [.sl 1 [] .nil, .bool false] [(0, 1, (.t 20))]), B 22 (.box (.t 21)), B 2 (.asg (.t 22)), B 3 (.asg (.k (.c (.int .i64 0))))] [2, 3])
  .ret)))))
def r41 : List ARes := [.tmp 2, .tmp 3]
theorem k41 : bChk Tryz.prog 41 Tryz.f41 1 c41 r41 = true := by kernel_rfl
theorem p41 : Tryz.prog.funcs[41]? = some Tryz.f41 := by kernel_rfl

/-- (*scrivener/scrivenerref25.reader).begin -/
def c42 : BCode :=
  (.seq (.reg [B 8 (.asg (.k (.c (.int .i64 0)))), B 9 (.asg (.k (.c (.int .i64 0)))), B 10 (.asg (.k (.c (.sl 1 [] .nil))))] [0, 1, 2, 3])
  (.seq (.reg [B 17 (.mv (.t 0)), B 18 (.call 43 [(.t 17), (.k (.c (.int .i64 2)))]), B 11 (.asg (.t 18))] [0, 1, 2, 3, 11])
  (.seq (.reg [B 19 (.mv (.t 11)), B 20 (.iadr 1 (.t 19) (.k (.c (.int .i64 1)))), B 21 (.load false 1 (.t 20)), B 22 (.conv .i64 (.t 21)), B 12 (.asg (.t 22))] [0, 1, 2, 3, 11, 12])
  (.seq (.seq (.reg [B 23 (.mv (.t 11)), B 24 (.iadr 1 (.t 23) (.k (.c (.int .i64 0)))), B 25 (.load false 1 (.t 24)), B 26 (.mv (.t 1)), B 27 (.bin .ne (.t 25) (.t 26)), B 28 (.mv (.t 27)), Bg 29 (.mv (.t 12)) 28 false, Bg 30 (.mv (.t 2)) 28 false, Bg 31 (.bin .lt (.t 29) (.t 30)) 28 false, B 32 (.pick (.t 28) (.k (.c (.bool true))) (.t 31)), B 33 (.mv (.t 32)), Bg 34 (.mv (.t 12)) 33 false, Bg 35 (.mv (.t 3)) 33 false, Bg 36 (.bin .gt (.t 34) (.t 35)) 33 false, B 37 (.pick (.t 33) (.k (.c (.bool true))) (.t 36))] [0, 12, 37])
  (.cond (.t 37) (.reg [B 38 (.mv (.t 0)), B 39 (.nilck (.t 38)), B 40 (.fadr 1 (.t 39)), Bn (.store 1 (.t 40) (.k (.c (.bool true))))] [0, 12])
  .skip))
  (.seq (.reg [B 41 (.mv (.t 0)), B 42 (.call 44 [(.t 41), (.k (.c (.int .i64 9007199254740992)))]), B 13 (.asg (.t 42))] [0, 12, 13])
  (.seq (.reg [B 43 (.mv (.t 0)), B 44 (.call 44 [(.t 43), (.k (.c (.int .i64 8)))]), B 14 (.asg (.t 44))] [0, 12, 13, 14])
  (.seq (.reg [B 15 (.asg (.k (.c (.sl 1 [] .nil))))] [0, 12, 13, 14, 15])
  (.seq (.seq (.reg [B 16 (.asg (.k (.c (.int .i64 0))))] [0, 12, 13, 14, 15, 16])
  (.block 0 (.loop (.seq (.seq (.reg [B 45 (.mv (.t 16)), B 46 (.mv (.t 14)), B 47 (.bin .lt (.t 45) (.t 46)), B 48 (.mv (.t 47)), Bg 49 (.mv (.t 0)) 48 true, Bg 50 (.nilck (.t 49)) 48 true, Bg 51 (.fadr 1 (.t 50)) 48 true, Bg 52 (.load false 1 (.t 51)) 48 true, Bg 53 (.not (.t 52)) 48 true, B 54 (.pick (.t 48) (.t 53) (.k (.c (.bool false))))] [0, 12, 13, 14, 15, 16, 54])
  (.cond (.t 54) .skip
  (.exit 0)))
  (.seq (.block 1 (.reg [B 57 (.mv (.t 15)), B 58 (.mv (.t 0)), B 59 (.call 74 [(.t 58)]), B 60 (.call 73 [(.t 59)]), B 61 (.slR 1 1 [.int .i64 0] [(0, 1, (.t 60))]), B 62 (.app 1 8 (.t 57) (.t 61)), B 15 (.asg (.t 62))] [0, 12, 13, 14, 15, 16]))
  (.reg [B 55 (.mv (.t 16)), B 56 (.bin .add (.t 55) (.k (.c (.int .i64 1)))), B 16 (.asg (.t 56))] [0, 12, 13, 14, 15, 16]))))))
  (.seq (.reg [B 63 (.mv (.t 12)), B 64 (.mv (.t 13)), B 65 (.mv (.t 15)), B 8 (.asg (.t 63)), B 9 (.asg (.t 64)), B 10 (.asg (.t 65))] [8, 9, 10])
  .ret)))))))))
def r42 : List ARes := [.tmp 8, .tmp 9, .tmp 10]
theorem k42 : bChk Tryz.prog 42 Tryz.f42 4 c42 r42 = true := by kernel_rfl
theorem p42 : Tryz.prog.funcs[42]? = some Tryz.f42 := by kernel_rfl

/-- (*scrivener/scrivenerref25.reader).raw -/
def c43 : BCode :=
  (.seq (.reg [B 4 (.asg (.k (.c (.sl 1 [] .nil))))] [0, 1])
  (.seq (.seq (.reg [B 6 (.mv (.t 0)), B 7 (.nilck (.t 6)), B 8 (.fadr 1 (.t 7)), B 9 (.load false 1 (.t 8)), B 10 (.mv (.t 9)), Bg 11 (.mv (.t 0)) 10 false, Bg 12 (.nilck (.t 11)) 10 false, Bg 13 (.fadr 0 (.t 12)) 10 false, Bg 14 (.load false 1 (.t 13)) 10 false, Bg 15 (.len (.t 14)) 10 false, Bg 16 (.mv (.t 1)) 10 false, Bg 17 (.bin .lt (.t 15) (.t 16)) 10 false, B 18 (.pick (.t 10) (.k (.c (.bool true))) (.t 17))] [0, 1, 18])
  (.cond (.t 18) (.seq (.reg [B 19 (.mv (.t 0)), B 20 (.nilck (.t 19)), B 21 (.fadr 1 (.t 20)), Bn (.store 1 (.t 21) (.k (.c (.bool true))))] [1])
  (.seq (.reg [B 22 (.mv (.t 1)), B 23 (.mm false (.t 22) (.k (.c (.int .i64 32)))), B 24 (.mksl false 1 1 [.int .u8 0] (.t 23) (.t 23)), B 4 (.asg (.t 24))] [4])
  .ret))
  .skip))
  (.seq (.reg [B 25 (.mv (.t 0)), B 26 (.nilck (.t 25)), B 27 (.fadr 0 (.t 26)), B 28 (.load false 1 (.t 27)), B 29 (.mv (.t 1)), B 30 (.slice 1 (.t 28) none (some (.t 29)) none), B 5 (.asg (.t 30))] [0, 1, 5])
  (.seq (.reg [B 31 (.mv (.t 0)), B 32 (.mv (.t 0)), B 33 (.nilck (.t 32)), B 34 (.fadr 0 (.t 33)), B 35 (.load false 1 (.t 34)), B 36 (.mv (.t 1)), B 37 (.slice 1 (.t 35) (some (.t 36)) none none), B 38 (.nilck (.t 31)), B 39 (.fadr 0 (.t 38)), Bn (.store 1 (.t 39) (.t 37))] [5])
  (.seq (.reg [B 40 (.mv (.t 5)), B 4 (.asg (.t 40))] [4])
  .ret)))))
def r43 : List ARes := [.tmp 4]
theorem k43 : bChk Tryz.prog 43 Tryz.f43 2 c43 r43 = true := by kernel_rfl
theorem p43 : Tryz.prog.funcs[43]? = some Tryz.f43 := by kernel_rfl

/-- (*scrivener/scrivenerref25.reader).count -/
def c44 : BCode :=
  (.seq (.reg [B 4 (.asg (.k (.c (.int .i64 0))))] [0, 1])
  (.seq (.reg [B 6 (.mv (.t 0)), B 7 (.call 74 [(.t 6)]), B 5 (.asg (.t 7))] [0, 1, 5])
  (.seq (.seq (.reg [B 8 (.mv (.t 5)), B 9 (.mv (.t 1)), B 10 (.conv .u64 (.t 9)), B 11 (.bin .gt (.t 8) (.t 10))] [0, 5, 11])
  (.cond (.t 11) (.seq (.reg [B 12 (.mv (.t 0)), B 13 (.nilck (.t 12)), B 14 (.fadr 1 (.t 13)), Bn (.store 1 (.t 14) (.k (.c (.bool true))))] [])
  (.seq (.reg [B 4 (.asg (.k (.c (.int .i64 0))))] [4])
  .ret))
  .skip))
  (.seq (.reg [B 15 (.mv (.t 5)), B 16 (.conv .i64 (.t 15)), B 4 (.asg (.t 16))] [4])
  .ret))))
def r44 : List ARes := [.tmp 4]
theorem k44 : bChk Tryz.prog 44 Tryz.f44 2 c44 r44 = true := by kernel_rfl
theorem p44 : Tryz.prog.funcs[44]? = some Tryz.f44 := by kernel_rfl

/-- (*scrivener/scrivenerref25.reader).values -/
def c45 : BCode :=
  (.seq (.reg [B 4 (.asg (.k (.c (.sl 6 [] .nil))))] [0, 1])
  (.seq (.reg [B 10 (.mv (.t 0)), B 11 (.mv (.t 1)), B 12 (.call 44 [(.t 10), (.t 11)]), B 5 (.asg (.t 12))] [0, 5])
  (.seq (.reg [B 6 (.asg (.k (.c (.sl 6 [] .nil))))] [0, 5, 6])
  (.seq (.seq (.reg [B 7 (.asg (.k (.c (.int .i64 0))))] [0, 5, 6, 7])
  (.block 0 (.loop (.seq (.seq (.reg [B 13 (.mv (.t 7)), B 14 (.mv (.t 5)), B 15 (.bin .lt (.t 13) (.t 14)), B 16 (.mv (.t 15)), Bg 17 (.mv (.t 0)) 16 true, Bg 18 (.nilck (.t 17)) 16 true, Bg 19 (.fadr 1 (.t 18)) 16 true, Bg 20 (.load false 1 (.t 19)) 16 true, Bg 21 (.not (.t 20)) 16 true, B 22 (.pick (.t 16) (.t 21) (.k (.c (.bool false))))] [0, 5, 6, 7, 22])
  (.cond (.t 22) .skip
  (.exit 0)))
  (.seq (.block 1 (.seq (.reg [B 26 (.mv (.t 0)), B 27 (.mv (.t 0)), B 28 (.call 44 [(.t 27), (.k (.c (.int .i64 65536)))]), B 29 (.call 43 [(.t 26), (.t 28)]), B 30 (.call 75 [(.t 29)]), B 25 (.mv (.t 30)), B 31 (.extract 0 (.t 25)), B 32 (.extract 1 (.t 25)), B 8 (.alloc [.int .i64 0, .int .i64 0, .int .i64 0, .str [], .sl 1 [] .nil, .sl 6 [] .nil]), Bn (.store 6 (.t 8) (.t 31)), B 9 (.asg (.t 32))] [0, 5, 6, 7, 8, 9])
  (.seq (.reg [B 33 (.mv (.t 0)), B 34 (.mv (.t 0)), B 35 (.nilck (.t 34)), B 36 (.fadr 1 (.t 35)), B 37 (.load false 1 (.t 36)), B 38 (.mv (.t 37)), Bg 39 (.mv (.t 9)) 38 false, Bg 40 (.bin .ne (.t 39) (.k (.c (.int .i64 0)))) 38 false, B 41 (.pick (.t 38) (.k (.c (.bool true))) (.t 40)), B 42 (.nilck (.t 33)), B 43 (.fadr 1 (.t 42)), Bn (.store 1 (.t 43) (.t 41))] [0, 5, 6, 7, 8])
  (.reg [B 44 (.mv (.t 6)), B 45 (.load true 6 (.t 8)), B 46 (.slR 6 1 [.int .i64 0, .int .i64 0, .int .i64 0, .str [], .sl 1 [] .nil, .sl 6 [] .nil] [(0, 6, (.t 45))]), B 47 (.app 6 88 (.t 44) (.t 46)), B 6 (.asg (.t 47))] [0, 5, 6, 7]))))
  (.reg [B 23 (.mv (.t 7)), B 24 (.bin .add (.t 23) (.k (.c (.int .i64 1)))), B 7 (.asg (.t 24))] [0, 5, 6, 7]))))))
  (.seq (.reg [B 48 (.mv (.t 6)), B 4 (.asg (.t 48))] [4])
  .ret)))))
def r45 : List ARes := [.tmp 4]
theorem k45 : bChk Tryz.prog 45 Tryz.f45 2 c45 r45 = true := by kernel_rfl
theorem p45 : Tryz.prog.funcs[45]? = some Tryz.f45 := by kernel_rfl

/-- scrivener/scrivenerref22.Open -/
def c51 : BCode :=
  (.seq (.reg [B 3 (.boxR (.t 1)), B 4 (.asg (.k (.c (.nilp)))), B 5 (.asg (.k (.c (.int .i64 0))))] [0, 3])
  (.seq (.seq (.reg [B 13 (.fadr 0 (.t 3)), B 14 (.load false 1 (.t 13)), B 15 (.bin .lt (.t 14) (.k (.c (.int .i64 1)))), B 16 (.mv (.t 15)), Bg 17 (.fadr 0 (.t 3)) 16 false, Bg 18 (.load false 1 (.t 17)) 16 false, Bg 19 (.bin .gt (.t 18) (.k (.c (.int .i64 64)))) 16 false, B 20 (.pick (.t 16) (.k (.c (.bool true))) (.t 19)), B 21 (.mv (.t 20)), Bg 22 (.fadr 1 (.t 3)) 21 false, Bg 23 (.load false 1 (.t 22)) 21 false, Bg 24 (.bin .lt (.t 23) (.k (.c (.int .i64 1)))) 21 false, B 25 (.pick (.t 21) (.k (.c (.bool true))) (.t 24)), B 26 (.mv (.t 25)), Bg 27 (.fadr 1 (.t 3)) 26 false, Bg 28 (.load false 1 (.t 27)) 26 false, Bg 29 (.bin .gt (.t 28) (.k (.c (.int .i64 1048576)))) 26 false, B 30 (.pick (.t 26) (.k (.c (.bool true))) (.t 29))] [0, 3, 30])
  (.cond (.t 30) (.seq (.reg [B 4 (.asg (.k (.c (.nilp)))), B 5 (.asg (.k (.c (.int .i64 1))))] [4, 5])
  .ret)
  .skip))
  (.seq (.reg [B 32 (.mv (.t 0)), B 33 (.call 88 [(.t 32)]), B 31 (.mv (.t 33)), B 34 (.extract 0 (.t 31)), B 35 (.extract 1 (.t 31)), B 6 (.asg (.t 34)), B 7 (.asg (.t 35))] [0, 3, 6, 7])
  (.seq (.seq (.reg [B 36 (.mv (.t 7)), B 37 (.bin .ne (.t 36) (.k (.c (.int .i64 0))))] [0, 3, 6, 7, 37])
  (.cond (.t 37) (.seq (.reg [B 38 (.mv (.t 7)), B 4 (.asg (.k (.c (.nilp)))), B 5 (.asg (.t 38))] [4, 5])
  .ret)
  .skip))
  (.seq (.regd [Oo 39 (.mv (.t 6)), Oo 40 (.call 89 []), Oo 41 (.load true 2 (.t 3)), Oo 42 (.build [.nilp, .nilp, .sl 1 [] .nil, .int .i64 0, .int .i64 0, .sl 1 [] .nil, .int .i64 0, .int .i64 0, .int .i64 0] [(0, 1, (.t 39)), (1, 1, (.t 40)), (3, 2, (.t 41))]), Oo 43 (.box (.t 42)), Oo 8 (.asg (.t 43))]
    (.fl 0 (.fl 2 (.ch 1 [2] (.fl 3 (.ch 4 [] (.ch 5 [] .done)))))) [0, 6, 8])
  (.seq (.seq (.reg [B 9 (.asg (.k (.c (.int .i64 0))))] [0, 6, 8, 9])
  (.block 0 (.loop (.seq (.seq (.reg [B 44 (.mv (.t 9)), B 45 (.mv (.t 6)), B 46 (.nilck (.t 45)), B 47 (.fadr 1 (.t 46)), B 48 (.load false 1 (.t 47)), B 49 (.len (.t 48)), B 50 (.bin .lt (.t 44) (.t 49))] [0, 6, 8, 9, 50])
  (.cond (.t 50) .skip
  (.exit 0)))
  (.seq (.block 1 (.seq (.regd [Oo 53 (.mv (.t 8)), Oo 54 (.mv (.t 8)), Oo 55 (.nilck (.t 54)), Oo 56 (.fadr 2 (.t 55)), Oo 57 (.load false 1 (.t 56)), Oo 58 (.mv (.t 8)), Oo 59 (.nilck (.t 58)), Oo 60 (.fadr 1 (.t 59)), Oo 61 (.load false 1 (.t 60)), Oo 62 (.slR 1 1 [.nilp] [(0, 1, (.t 61))]), Oo 63 (.app 1 8 (.t 57) (.t 62)), Oo 64 (.nilck (.t 53)), Oo 65 (.fadr 2 (.t 64)), On (.store 1 (.t 65) (.t 63))]
    (.fl 0 (.fl 1 (.fl 2 (.fl 3 (.fl 4 (.fl 5 (.fl 6 (.fl 7 (.fl 8 (.fl 9 (.ch 10 [] (.fl 11 (.fl 12 (.ch 13 [] .done)))))))))))))) [0, 6, 8, 9])
  (.seq (.reg [B 66 (.mv (.t 8)), B 67 (.nilck (.t 66)), B 68 (.fadr 1 (.t 67)), B 69 (.load false 1 (.t 68)), B 70 (.call 90 [(.t 69)]), B 10 (.asg (.t 70))] [0, 6, 8, 9, 10])
  (.seq (.reg [B 71 (.mv (.t 10)), B 72 (.mv (.t 6)), B 73 (.nilck (.t 72)), B 74 (.fadr 1 (.t 73)), B 75 (.load false 1 (.t 74)), B 76 (.mv (.t 9)), B 77 (.iadr 36 (.t 75) (.t 76)), B 78 (.load true 36 (.t 77)), B 79 (.call 91 [(.t 71), (.t 78)]), B 11 (.asg (.t 79))] [0, 6, 8, 9, 10, 11])
  (.seq (.seq (.reg [B 80 (.mv (.t 11)), B 81 (.bin .ne (.t 80) (.k (.c (.int .i64 0))))] [0, 6, 8, 9, 10, 81])
  (.cond (.t 81) (.seq (.reg [B 4 (.asg (.k (.c (.nilp)))), B 5 (.asg (.k (.c (.int .i64 3))))] [4, 5])
  .ret)
  .skip))
  (.seq (.reg [B 82 (.mv (.t 8)), B 83 (.mv (.t 10)), B 84 (.nilck (.t 82)), B 85 (.fadr 1 (.t 84)), Bn (.store 1 (.t 85) (.t 83))] [0, 6, 8, 9])
  (.reg [B 86 (.mv (.t 8)), B 87 (.mv (.t 6)), B 88 (.nilck (.t 87)), B 89 (.fadr 1 (.t 88)), B 90 (.load false 1 (.t 89)), B 91 (.mv (.t 9)), B 92 (.iadr 36 (.t 90) (.t 91)), B 93 (.fadr 1 (.t 92)), B 94 (.load false 1 (.t 93)), B 95 (.nilck (.t 86)), B 96 (.fadr 6 (.t 95)), Bn (.store 1 (.t 96) (.t 94))] [0, 6, 8, 9])))))))
  (.reg [B 51 (.mv (.t 9)), B 52 (.bin .add (.t 51) (.k (.c (.int .i64 1)))), B 9 (.asg (.t 52))] [0, 6, 8, 9]))))))
  (.seq (.reg [B 97 (.mv (.t 0)), B 98 (.call 92 [(.t 97)]), B 12 (.asg (.t 98))] [0, 8, 12])
  (.seq (.block 2 (.seq (.reg [B 107 (.mv (.t 12)), B 108 (.bin .ge (.t 107) (.k (.c (.int .i64 99999999)))), B 106 (.asg (.t 108))] [0, 8, 12, 106])
  (.cond (.t 106) (.reg [B 7 (.asg (.k (.c (.int .i64 17))))] [7, 8, 12])
  (.seq (.reg [B 110 (.mv (.t 12)), B 111 (.bin .lt (.t 110) (.k (.c (.int .i64 0)))), B 109 (.asg (.t 111))] [0, 8, 12, 109])
  (.cond (.t 109) (.seq (.reg [B 12 (.asg (.k (.c (.int .i64 0))))] [0, 8, 12])
  (.reg [B 112 (.mv (.t 0)), B 113 (.call 94 [(.k (.c (.int .i64 1)))]), B 114 (.call 93 [(.t 112), (.t 113), (.k (.c (.sl 1 [] .nil)))]), B 7 (.asg (.t 114))] [7, 8, 12]))
  (.reg [B 99 (.mv (.t 0)), B 100 (.mv (.t 12)), B 101 (.call 94 [(.t 100)]), B 102 (.mv (.t 12)), B 103 (.bin .add (.t 102) (.k (.c (.int .i64 1)))), B 104 (.call 94 [(.t 103)]), B 105 (.call 95 [(.t 99), (.t 101), (.t 104)]), B 7 (.asg (.t 105))] [7, 8, 12]))))))
  (.seq (.seq (.reg [B 115 (.mv (.t 7)), B 116 (.bin .ne (.t 115) (.k (.c (.int .i64 0))))] [7, 8, 12, 116])
  (.cond (.t 116) (.seq (.reg [B 117 (.mv (.t 7)), B 4 (.asg (.k (.c (.nilp)))), B 5 (.asg (.t 117))] [4, 5])
  .ret)
  .skip))
  (.seq (.reg [B 118 (.mv (.t 8)), B 119 (.mv (.t 12)), B 120 (.bin .add (.t 119) (.k (.c (.int .i64 1)))), B 121 (.bin .shl (.t 120) (.k (.c (.int .u64 20)))), B 122 (.nilck (.t 118)), B 123 (.fadr 7 (.t 122)), Bn (.store 1 (.t 123) (.t 121))] [8, 12])
  (.seq (.reg [B 124 (.mv (.t 8)), B 125 (.mv (.t 12)), B 126 (.bin .add (.t 125) (.k (.c (.int .i64 1)))), B 127 (.bin .shl (.t 126) (.k (.c (.int .u64 20)))), B 128 (.nilck (.t 124)), B 129 (.fadr 8 (.t 128)), Bn (.store 1 (.t 129) (.t 127))] [8])
  (.seq (.reg [B 130 (.mv (.t 8)), B 4 (.asg (.t 130)), B 5 (.asg (.k (.c (.int .i64 0))))] [4, 5])
  .ret))))))))))))
def r51 : List ARes := [.tmp 4, .tmp 5]
theorem k51 : bChk Tryz.prog 51 Tryz.f51 2 c51 r51 = true := by kernel_rfl
theorem p51 : Tryz.prog.funcs[51]? = some Tryz.f51 := by kernel_rfl

/-- scrivener/wire.head -/
def c52 : BCode :=
  (.seq (.reg [B 8 (.asg (.k (.c (.sl 1 [] .nil))))] [0, 1, 2, 3])
  (.seq (.reg [B 12 (.mv (.t 0)), B 13 (.mv (.t 1)), B 14 (.slR 1 2 [.int .u8 0, .int .u8 0] [(0, 1, (.t 12)), (1, 1, (.t 13))]), B 15 (.mv (.t 2)), B 16 (.call 54 [(.t 14), (.t 15)]), B 17 (.mv (.t 3)), B 18 (.len (.t 17)), B 19 (.call 54 [(.t 16), (.t 18)]), B 9 (.asg (.t 19))] [3, 9])
  (.seq (.seq (.reg [B 20 (.mv (.t 3)), B 21 (.len (.t 20)), B 22 (.mv (.k (.c (.int .i64 0))))] [9, 20, 21, 22])
  (.block 0 (.loop (.seq (.reg [B 23 (.bin .lt (.t 22) (.t 21))] [9, 20, 21, 22, 23])
  (.seq (.cond (.t 23) .skip
  (.exit 0))
  (.seq (.block 1 (.seq (.reg [B 24 (.iadr 1 (.t 20) (.t 22)), B 25 (.load false 1 (.t 24)), B 11 (.asg (.t 25))] [9, 11, 20, 21, 22])
  (.reg [B 26 (.mv (.t 9)), B 27 (.mv (.t 11)), B 28 (.call 97 [(.t 27)]), B 29 (.call 96 [(.t 28)]), B 30 (.app 1 1 (.t 26) (.t 29)), B 9 (.asg (.t 30))] [9, 20, 21, 22])))
  (.reg [B 31 (.bin .add (.t 22) (.k (.c (.int .i64 1)))), B 22 (.mv (.t 31))] [9, 20, 21, 22])))))))
  (.seq (.reg [B 32 (.mv (.t 9)), B 8 (.asg (.t 32))] [8])
  .ret))))
def r52 : List ARes := [.tmp 8]
theorem k52 : bChk Tryz.prog 52 Tryz.f52 4 c52 r52 = true := by kernel_rfl
theorem p52 : Tryz.prog.funcs[52]? = some Tryz.f52 := by kernel_rfl

/-- scrivener/wire.values -/
def c53 : BCode :=
  (.seq (.reg [B 4 (.asg (.k (.c (.sl 1 [] .nil)))), B 5 (.asg (.k (.c (.int .i64 0))))] [0, 1])
  (.seq (.reg [B 10 (.mv (.t 0)), B 11 (.mv (.t 1)), B 12 (.len (.t 11)), B 13 (.call 54 [(.t 10), (.t 12)]), B 0 (.asg (.t 13))] [0, 1])
  (.seq (.seq (.reg [B 14 (.mv (.t 1)), B 15 (.len (.t 14)), B 16 (.mv (.k (.c (.int .i64 0))))] [0, 14, 15, 16])
  (.block 0 (.loop (.seq (.reg [B 17 (.bin .lt (.t 16) (.t 15))] [0, 14, 15, 16, 17])
  (.seq (.cond (.t 17) .skip
  (.exit 0))
  (.seq (.block 1 (.seq (.reg [B 18 (.iadr 6 (.t 14) (.t 16)), B 19 (.load true 6 (.t 18)), B 7 (.alloc [.int .i64 0, .int .i64 0, .int .i64 0, .str [], .sl 1 [] .nil, .sl 6 [] .nil]), Bn (.store 6 (.t 7) (.t 19))] [0, 7, 14, 15, 16])
  (.seq (.reg [B 21 (.load true 6 (.t 7)), B 22 (.call 98 [(.t 21)]), B 20 (.mv (.t 22)), B 23 (.extract 0 (.t 20)), B 24 (.extract 1 (.t 20)), B 8 (.asg (.t 23)), B 9 (.asg (.t 24))] [0, 8, 9, 14, 15, 16])
  (.seq (.seq (.reg [B 25 (.mv (.t 9)), B 26 (.bin .ne (.t 25) (.k (.c (.int .i64 0))))] [0, 8, 9, 14, 15, 16, 26])
  (.cond (.t 26) (.seq (.reg [B 27 (.mv (.t 9)), B 4 (.asg (.k (.c (.sl 1 [] .nil)))), B 5 (.asg (.t 27))] [4, 5])
  .ret)
  .skip))
  (.reg [B 28 (.mv (.t 0)), B 29 (.mv (.t 8)), B 30 (.len (.t 29)), B 31 (.call 54 [(.t 28), (.t 30)]), B 32 (.mv (.t 8)), B 33 (.app 1 1 (.t 31) (.t 32)), B 0 (.asg (.t 33))] [0, 14, 15, 16])))))
  (.reg [B 34 (.bin .add (.t 16) (.k (.c (.int .i64 1)))), B 16 (.mv (.t 34))] [0, 14, 15, 16])))))))
  (.seq (.reg [B 35 (.mv (.t 0)), B 4 (.asg (.t 35)), B 5 (.asg (.k (.c (.int .i64 0))))] [4, 5])
  .ret))))
def r53 : List ARes := [.tmp 4, .tmp 5]
theorem k53 : bChk Tryz.prog 53 Tryz.f53 2 c53 r53 = true := by kernel_rfl
theorem p53 : Tryz.prog.funcs[53]? = some Tryz.f53 := by kernel_rfl

/-- scrivener/wire.count -/
def c54 : BCode :=
  (.seq (.reg [B 4 (.asg (.k (.c (.sl 1 [] .nil))))] [0, 1])
  (.seq (.reg [B 5 (.mv (.t 0)), B 6 (.mv (.t 1)), B 7 (.conv .u64 (.t 6)), B 8 (.call 96 [(.t 7)]), B 9 (.app 1 1 (.t 5) (.t 8)), B 4 (.asg (.t 9))] [4])
  .ret))
def r54 : List ARes := [.tmp 4]
theorem k54 : bChk Tryz.prog 54 Tryz.f54 2 c54 r54 = true := by kernel_rfl
theorem p54 : Tryz.prog.funcs[54]? = some Tryz.f54 := by kernel_rfl

/-- scrivener/frame.Encode -/
def c55 : BCode :=
  (.seq (.reg [B 2 (.asg (.k (.c (.sl 1 [] .nil)))), B 3 (.asg (.k (.c (.int .i64 0))))] [0])
  (.seq (.seq (.reg [B 5 (.mv (.t 0)), B 6 (.len (.t 5)), B 7 (.bin .gt (.t 6) (.k (.c (.int .i64 524288))))] [0, 7])
  (.cond (.t 7) (.seq (.reg [B 2 (.asg (.k (.c (.sl 1 [] .nil)))), B 3 (.asg (.k (.c (.int .i64 5))))] [2, 3])
  .ret)
  .skip))
  (.seq (.reg [B 8 (.mv (.t 0)), B 9 (.len (.t 8)), B 10 (.conv .u32 (.t 9)), B 11 (.call 100 [(.t 10)]), B 12 (.call 99 [(.t 11)]), B 13 (.mv (.t 0)), B 14 (.app 1 1 (.t 12) (.t 13)), B 4 (.asg (.t 14))] [4])
  (.seq (.reg [B 15 (.mv (.t 4)), B 16 (.mv (.t 4)), B 17 (.call 102 [(.t 16)]), B 18 (.call 101 [(.t 17)]), B 19 (.app 1 1 (.t 15) (.t 18)), B 2 (.asg (.t 19)), B 3 (.asg (.k (.c (.int .i64 0))))] [2, 3])
  .ret))))
def r55 : List ARes := [.tmp 2, .tmp 3]
theorem k55 : bChk Tryz.prog 55 Tryz.f55 1 c55 r55 = true := by kernel_rfl
theorem p55 : Tryz.prog.funcs[55]? = some Tryz.f55 := by kernel_rfl

/-- scrivener/client.own -/
def c56 : BCode :=
  (.seq (.reg [B 1 (.box (.t 0)), B 2 (.alloc [.int .i64 0, .int .i64 0, .int .i64 0, .str [], .sl 1 [] .nil, .sl 6 [] .nil])] [1, 2])
  (.seq (.reg [B 6 (.fadr 4 (.t 1)), B 7 (.load false 1 (.t 6)), B 8 (.call 103 [(.t 7)]), B 9 (.fadr 4 (.t 1)), Bn (.store 1 (.t 9) (.t 8))] [1, 2])
  (.seq (.reg [B 3 (.asg (.k (.c (.sl 6 [] .nil))))] [1, 2, 3])
  (.seq (.seq (.reg [B 10 (.fadr 5 (.t 1)), B 11 (.load false 1 (.t 10)), B 12 (.len (.t 11)), B 13 (.mv (.k (.c (.int .i64 0))))] [1, 2, 3, 11, 12, 13])
  (.block 0 (.loop (.seq (.reg [B 14 (.bin .lt (.t 13) (.t 12))] [1, 2, 3, 11, 12, 13, 14])
  (.seq (.cond (.t 14) .skip
  (.exit 0))
  (.seq (.block 1 (.seq (.reg [B 15 (.iadr 6 (.t 11) (.t 13)), B 16 (.load true 6 (.t 15)), B 5 (.alloc [.int .i64 0, .int .i64 0, .int .i64 0, .str [], .sl 1 [] .nil, .sl 6 [] .nil]), Bn (.store 6 (.t 5) (.t 16))] [1, 2, 3, 5, 11, 12, 13])
  (.reg [B 17 (.mv (.t 3)), B 18 (.load true 6 (.t 5)), B 19 (.call 56 [(.t 18)]), B 20 (.slR 6 1 [.int .i64 0, .int .i64 0, .int .i64 0, .str [], .sl 1 [] .nil, .sl 6 [] .nil] [(0, 6, (.t 19))]), B 21 (.app 6 88 (.t 17) (.t 20)), B 3 (.asg (.t 21))] [1, 2, 3, 11, 12, 13])))
  (.reg [B 22 (.bin .add (.t 13) (.k (.c (.int .i64 1)))), B 13 (.mv (.t 22))] [1, 2, 3, 11, 12, 13])))))))
  (.seq (.reg [B 23 (.mv (.t 3)), B 24 (.fadr 5 (.t 1)), Bn (.store 1 (.t 24) (.t 23))] [1, 2])
  (.seq (.reg [B 25 (.load true 6 (.t 1)), Bn (.store 6 (.t 2) (.t 25))] [2])
  .ret))))))
def r56 : List ARes := [.cell 2 true 6]
theorem k56 : bChk Tryz.prog 56 Tryz.f56 1 c56 r56 = true := by kernel_rfl
theorem p56 : Tryz.prog.funcs[56]? = some Tryz.f56 := by kernel_rfl

/-- scrivener/scrivenerref1.Uvarint -/
def c57 : BCode :=
  (.seq (.reg [B 2 (.asg (.k (.c (.sl 1 [] .nil))))] [0])
  (.seq (.reg [B 3 (.asg (.k (.c (.sl 1 [] .nil))))] [0, 3])
  (.seq (.block 0 (.loop (.seq (.seq (.reg [B 4 (.mv (.t 0)), B 5 (.bin .ge (.t 4) (.k (.c (.int .u64 128))))] [0, 3, 5])
  (.cond (.t 5) .skip
  (.exit 0)))
  (.block 1 (.seq (.reg [B 6 (.mv (.t 3)), B 7 (.mv (.t 0)), B 8 (.bin .and (.t 7) (.k (.c (.int .u64 127)))), B 9 (.conv .u8 (.t 8)), B 10 (.bin .or (.t 9) (.k (.c (.int .u8 128)))), B 11 (.slR 1 1 [.int .u8 0] [(0, 1, (.t 10))]), B 12 (.app 1 1 (.t 6) (.t 11)), B 3 (.asg (.t 12))] [0, 3])
  (.reg [B 13 (.mv (.t 0)), B 14 (.bin .shr (.t 13) (.k (.c (.int .u64 7)))), B 0 (.asg (.t 14))] [0, 3]))))))
  (.seq (.reg [B 15 (.mv (.t 3)), B 16 (.mv (.t 0)), B 17 (.conv .u8 (.t 16)), B 18 (.slR 1 1 [.int .u8 0] [(0, 1, (.t 17))]), B 19 (.app 1 1 (.t 15) (.t 18)), B 2 (.asg (.t 19))] [2])
  .ret))))
def r57 : List ARes := [.tmp 2]
theorem k57 : bChk Tryz.prog 57 Tryz.f57 1 c57 r57 = true := by kernel_rfl
theorem p57 : Tryz.prog.funcs[57]? = some Tryz.f57 := by kernel_rfl

/-- scrivener/scrivenerref7.Encode -/
def c58 : BCode :=
  (.seq (.reg [B 1 (.boxR (.t 0)), B 2 (.asg (.k (.c (.sl 1 [] .nil)))), B 3 (.asg (.k (.c (.int .i64 0))))] [1])
  (.seq (.reg [B 7 (.load true 6 (.t 1)), B 8 (.call 104 [(.t 7)]), B 4 (.asg (.t 8))] [1, 4])
  (.seq (.seq (.reg [B 9 (.mv (.t 4)), B 10 (.bin .ne (.t 9) (.k (.c (.int .i64 0))))] [1, 4, 10])
  (.cond (.t 10) (.seq (.reg [B 11 (.mv (.t 4)), B 2 (.asg (.k (.c (.sl 1 [] .nil)))), B 3 (.asg (.t 11))] [2, 3])
  .ret)
  .skip))
  (.seq (.reg [B 5 (.alloc [.int .i64 0]), Bn (.store 1 (.t 5) (.k (.c (.int .i64 0))))] [1, 5])
  (.seq (.seq (.reg [B 12 (.load true 6 (.t 1)), B 13 (.call 105 [(.t 12), (.t 5)])] [1, 13])
  (.cond (.t 13) (.seq (.reg [B 2 (.asg (.k (.c (.sl 1 [] .nil)))), B 3 (.asg (.k (.c (.int .i64 5))))] [2, 3])
  .ret)
  .skip))
  (.seq (.reg [B 14 (.load true 6 (.t 1)), B 15 (.call 106 [(.k (.c (.sl 1 [] .nil))), (.t 14)]), B 6 (.asg (.t 15))] [6])
  (.seq (.seq (.reg [B 16 (.mv (.t 6)), B 17 (.len (.t 16)), B 18 (.bin .gt (.t 17) (.k (.c (.int .i64 65536))))] [6, 18])
  (.cond (.t 18) (.seq (.reg [B 2 (.asg (.k (.c (.sl 1 [] .nil)))), B 3 (.asg (.k (.c (.int .i64 5))))] [2, 3])
  .ret)
  .skip))
  (.seq (.reg [B 19 (.mv (.t 6)), B 2 (.asg (.t 19)), B 3 (.asg (.k (.c (.int .i64 0))))] [2, 3])
  .ret))))))))
def r58 : List ARes := [.tmp 2, .tmp 3]
theorem k58 : bChk Tryz.prog 58 Tryz.f58 1 c58 r58 = true := by kernel_rfl
theorem p58 : Tryz.prog.funcs[58]? = some Tryz.f58 := by kernel_rfl

/-- scrivener/scrivenerref1.Zig -/
def c59 : BCode :=
  (.seq (.reg [B 2 (.asg (.k (.c (.int .u64 0))))] [0])
  (.seq (.seq (.reg [B 3 (.mv (.t 0)), B 4 (.bin .ge (.t 3) (.k (.c (.int .i64 0))))] [0, 4])
  (.cond (.t 4) (.seq (.reg [B 5 (.mv (.t 0)), B 6 (.conv .u64 (.t 5)), B 7 (.bin .mul (.k (.c (.int .u64 2))) (.t 6)), B 2 (.asg (.t 7))] [2])
  .ret)
  .skip))
  (.seq (.reg [B 8 (.mv (.t 0)), B 9 (.bin .add (.t 8) (.k (.c (.int .i64 1)))), B 10 (.neg (.t 9)), B 11 (.conv .u64 (.t 10)), B 12 (.bin .mul (.k (.c (.int .u64 2))) (.t 11)), B 13 (.bin .add (.t 12) (.k (.c (.int .u64 1)))), B 2 (.asg (.t 13))] [2])
  .ret)))
def r59 : List ARes := [.tmp 2]
theorem k59 : bChk Tryz.prog 59 Tryz.f59 1 c59 r59 = true := by kernel_rfl
theorem p59 : Tryz.prog.funcs[59]? = some Tryz.f59 := by kernel_rfl

/-- scrivener/scrivenerref1.Short -/
def c60 : BCode :=
  (.seq (.reg [B 2 (.asg (.k (.c (.sl 1 [] .nil))))] [0])
  (.seq (.reg [B 3 (.mv (.t 0)), B 4 (.bin .shr (.t 3) (.k (.c (.int .u64 24)))), B 5 (.conv .u8 (.t 4)), B 6 (.mv (.t 0)), B 7 (.bin .shr (.t 6) (.k (.c (.int .u64 16)))), B 8 (.conv .u8 (.t 7)), B 9 (.mv (.t 0)), B 10 (.bin .shr (.t 9) (.k (.c (.int .u64 8)))), B 11 (.conv .u8 (.t 10)), B 12 (.mv (.t 0)), B 13 (.conv .u8 (.t 12)), B 14 (.slR 1 4 [.int .u8 0, .int .u8 0, .int .u8 0, .int .u8 0] [(0, 1, (.t 5)), (1, 1, (.t 8)), (2, 1, (.t 11)), (3, 1, (.t 13))]), B 2 (.asg (.t 14))] [2])
  .ret))
def r60 : List ARes := [.tmp 2]
theorem k60 : bChk Tryz.prog 60 Tryz.f60 1 c60 r60 = true := by kernel_rfl
theorem p60 : Tryz.prog.funcs[60]? = some Tryz.f60 := by kernel_rfl

/-- scrivener/scrivenerref1.Sum -/
def c61 : BCode :=
  (.seq (.reg [B 2 (.asg (.k (.c (.int .u32 0))))] [0])
  (.seq (.reg [B 3 (.asg (.k (.c (.int .u32 4294967295))))] [0, 3])
  (.seq (.seq (.reg [B 4 (.asg (.k (.c (.int .i64 0))))] [0, 3, 4])
  (.block 0 (.loop (.seq (.seq (.reg [B 6 (.mv (.t 4)), B 7 (.mv (.t 0)), B 8 (.len (.t 7)), B 9 (.bin .lt (.t 6) (.t 8))] [0, 3, 4, 9])
  (.cond (.t 9) .skip
  (.exit 0)))
  (.seq (.block 1 (.seq (.reg [B 12 (.mv (.t 3)), B 13 (.mv (.t 0)), B 14 (.mv (.t 4)), B 15 (.iadr 1 (.t 13) (.t 14)), B 16 (.load false 1 (.t 15)), B 17 (.conv .u32 (.t 16)), B 18 (.bin .xor (.t 12) (.t 17)), B 3 (.asg (.t 18))] [0, 3, 4])
  (.seq (.reg [B 5 (.asg (.k (.c (.int .i64 0))))] [0, 3, 4, 5])
  (.block 2 (.loop (.seq (.seq (.reg [B 19 (.mv (.t 5)), B 20 (.bin .lt (.t 19) (.k (.c (.int .i64 8))))] [0, 3, 4, 5, 20])
  (.cond (.t 20) .skip
  (.exit 2)))
  (.seq (.block 3 (.seq (.reg [B 23 (.mv (.t 3)), B 24 (.bin .and (.t 23) (.k (.c (.int .u32 1)))), B 25 (.bin .eq (.t 24) (.k (.c (.int .u32 1))))] [0, 3, 4, 5, 25])
  (.cond (.t 25) (.reg [B 26 (.mv (.t 3)), B 27 (.bin .shr (.t 26) (.k (.c (.int .u64 1)))), B 28 (.bin .xor (.t 27) (.k (.c (.int .u32 3988292384)))), B 3 (.asg (.t 28))] [0, 3, 4, 5])
  (.reg [B 29 (.mv (.t 3)), B 30 (.bin .shr (.t 29) (.k (.c (.int .u64 1)))), B 3 (.asg (.t 30))] [0, 3, 4, 5]))))
  (.reg [B 21 (.mv (.t 5)), B 22 (.bin .add (.t 21) (.k (.c (.int .i64 1)))), B 5 (.asg (.t 22))] [0, 3, 4, 5]))))))))
  (.reg [B 10 (.mv (.t 4)), B 11 (.bin .add (.t 10) (.k (.c (.int .i64 1)))), B 4 (.asg (.t 11))] [0, 3, 4]))))))
  (.seq (.reg [B 31 (.mv (.t 3)), B 32 (.inv (.t 31)), B 2 (.asg (.t 32))] [2])
  .ret))))
def r61 : List ARes := [.tmp 2]
theorem k61 : bChk Tryz.prog 61 Tryz.f61 1 c61 r61 = true := by kernel_rfl
theorem p61 : Tryz.prog.funcs[61]? = some Tryz.f61 := by kernel_rfl

/-- scrivener/wire.open -/
def c62 : BCode :=
  (.seq (.reg [B 2 (.asg (.k (.c (.nilp)))), B 3 (.asg (.k (.c (.int .i64 0))))] [0])
  (.seq (.reg [B 8 (.mv (.t 0)), B 9 (.call 107 [(.t 8)]), B 7 (.mv (.t 9)), B 10 (.extract 0 (.t 7)), B 11 (.extract 1 (.t 7)), B 12 (.extract 2 (.t 7)), B 4 (.asg (.t 10)), B 5 (.asg (.t 11)), B 6 (.asg (.t 12))] [0, 4, 5, 6])
  (.seq (.block 0 (.seq (.reg [B 14 (.mv (.t 6)), B 15 (.bin .ne (.t 14) (.k (.c (.int .i64 0)))), B 13 (.asg (.t 15))] [0, 4, 5, 6, 13])
  (.cond (.t 13) (.seq (.reg [B 16 (.mv (.t 6)), B 2 (.asg (.k (.c (.nilp)))), B 3 (.asg (.t 16))] [2, 3])
  .ret)
  (.seq (.reg [B 18 (.mv (.t 5)), B 19 (.mv (.t 0)), B 20 (.len (.t 19)), B 21 (.bin .ne (.t 18) (.t 20)), B 17 (.asg (.t 21))] [4, 17])
  (.cond (.t 17) (.seq (.reg [B 2 (.asg (.k (.c (.nilp)))), B 3 (.asg (.k (.c (.int .i64 3))))] [2, 3])
  .ret)
  .skip)))))
  (.seq (.reg [B 22 (.mv (.t 4)), B 23 (.build [.sl 1 [] .nil, .bool false] [(0, 1, (.t 22))]), B 24 (.box (.t 23)), B 2 (.asg (.t 24)), B 3 (.asg (.k (.c (.int .i64 0))))] [2, 3])
  .ret))))
def r62 : List ARes := [.tmp 2, .tmp 3]
theorem k62 : bChk Tryz.prog 62 Tryz.f62 1 c62 r62 = true := by kernel_rfl
theorem p62 : Tryz.prog.funcs[62]? = some Tryz.f62 := by kernel_rfl

/-- (*scrivener/wire.reader).byte -/
def c63 : BCode :=
  (.seq (.reg [B 2 (.asg (.k (.c (.int .u8 0))))] [0])
  (.seq (.reg [B 4 (.mv (.t 0)), B 5 (.call 67 [(.t 4), (.k (.c (.int .i64 1)))]), B 3 (.asg (.t 5))] [3])
  (.seq (.seq (.reg [B 6 (.mv (.t 3)), B 7 (.len (.t 6)), B 8 (.bin .eq (.t 7) (.k (.c (.int .i64 0))))] [3, 8])
  (.cond (.t 8) (.seq (.reg [B 2 (.asg (.k (.c (.int .u8 0))))] [2])
  .ret)
  .skip))
  (.seq (.reg [B 9 (.mv (.t 3)), B 10 (.iadr 1 (.t 9) (.k (.c (.int .i64 0)))), B 11 (.load false 1 (.t 10)), B 2 (.asg (.t 11))] [2])
  .ret))))
def r63 : List ARes := [.tmp 2]
theorem k63 : bChk Tryz.prog 63 Tryz.f63 1 c63 r63 = true := by kernel_rfl
theorem p63 : Tryz.prog.funcs[63]? = some Tryz.f63 := by kernel_rfl

/-- (*scrivener/wire.reader).upTo -/
def c64 : BCode :=
  (.seq (.reg [B 4 (.asg (.k (.c (.int .i64 0))))] [0, 1])
  (.seq (.reg [B 6 (.mv (.t 0)), B 7 (.call 108 [(.t 6)]), B 5 (.asg (.t 7))] [0, 1, 5])
  (.seq (.seq (.reg [B 8 (.mv (.t 5)), B 9 (.mv (.t 1)), B 10 (.conv .u64 (.t 9)), B 11 (.bin .gt (.t 8) (.t 10))] [0, 5, 11])
  (.cond (.t 11) (.seq (.reg [B 12 (.mv (.t 0)), B 13 (.nilck (.t 12)), B 14 (.fadr 1 (.t 13)), Bn (.store 1 (.t 14) (.k (.c (.bool true))))] [])
  (.seq (.reg [B 4 (.asg (.k (.c (.int .i64 0))))] [4])
  .ret))
  .skip))
  (.seq (.reg [B 15 (.mv (.t 5)), B 16 (.conv .i64 (.t 15)), B 4 (.asg (.t 16))] [4])
  .ret))))
def r64 : List ARes := [.tmp 4]
theorem k64 : bChk Tryz.prog 64 Tryz.f64 2 c64 r64 = true := by kernel_rfl
theorem p64 : Tryz.prog.funcs[64]? = some Tryz.f64 := by kernel_rfl

/-- (*scrivener/wire.reader).nums -/
def c65 : BCode :=
  (.seq (.reg [B 2 (.asg (.k (.c (.sl 1 [] .nil))))] [0])
  (.seq (.reg [B 3 (.asg (.k (.c (.sl 1 [] .nil))))] [0, 3])
  (.seq (.seq (.reg [B 4 (.mv (.t 0)), B 5 (.call 64 [(.t 4), (.k (.c (.int .i64 8)))]), B 6 (.mv (.k (.c (.int .i64 0))))] [0, 3, 5, 6])
  (.block 0 (.loop (.seq (.reg [B 7 (.bin .lt (.t 6) (.t 5))] [0, 3, 5, 6, 7])
  (.seq (.cond (.t 7) .skip
  (.exit 0))
  (.seq (.block 1 (.reg [B 8 (.mv (.t 3)), B 9 (.mv (.t 0)), B 10 (.call 108 [(.t 9)]), B 11 (.call 109 [(.t 10)]), B 12 (.slR 1 1 [.int .i64 0] [(0, 1, (.t 11))]), B 13 (.app 1 8 (.t 8) (.t 12)), B 3 (.asg (.t 13))] [0, 3, 5, 6]))
  (.reg [B 14 (.bin .add (.t 6) (.k (.c (.int .i64 1)))), B 6 (.mv (.t 14))] [0, 3, 5, 6])))))))
  (.seq (.reg [B 15 (.mv (.t 3)), B 2 (.asg (.t 15))] [2])
  .ret))))
def r65 : List ARes := [.tmp 2]
theorem k65 : bChk Tryz.prog 65 Tryz.f65 1 c65 r65 = true := by kernel_rfl
theorem p65 : Tryz.prog.funcs[65]? = some Tryz.f65 := by kernel_rfl

/-- (*scrivener/wire.reader).values -/
def c66 : BCode :=
  (.seq (.reg [B 4 (.asg (.k (.c (.sl 6 [] .nil))))] [0, 1])
  (.seq (.reg [B 5 (.asg (.k (.c (.sl 6 [] .nil))))] [0, 1, 5])
  (.seq (.seq (.reg [B 8 (.mv (.t 0)), B 9 (.mv (.t 1)), B 10 (.call 64 [(.t 8), (.t 9)]), B 11 (.mv (.k (.c (.int .i64 0))))] [0, 5, 10, 11])
  (.block 0 (.loop (.seq (.reg [B 12 (.bin .lt (.t 11) (.t 10))] [0, 5, 10, 11, 12])
  (.seq (.cond (.t 12) .skip
  (.exit 0))
  (.seq (.block 1 (.seq (.reg [B 14 (.mv (.t 0)), B 15 (.mv (.t 0)), B 16 (.call 64 [(.t 15), (.k (.c (.int .i64 65536)))]), B 17 (.call 67 [(.t 14), (.t 16)]), B 18 (.call 110 [(.t 17)]), B 13 (.mv (.t 18)), B 19 (.extract 0 (.t 13)), B 20 (.extract 1 (.t 13)), B 6 (.alloc [.int .i64 0, .int .i64 0, .int .i64 0, .str [], .sl 1 [] .nil, .sl 6 [] .nil]), Bn (.store 6 (.t 6) (.t 19)), B 7 (.asg (.t 20))] [0, 5, 6, 7, 10, 11])
  (.seq (.seq (.reg [B 21 (.mv (.t 0)), B 22 (.mv (.t 0)), B 23 (.nilck (.t 22)), B 24 (.fadr 1 (.t 23)), B 25 (.load false 1 (.t 24)), B 26 (.mv (.t 25)), Bg 27 (.mv (.t 7)) 26 false, Bg 28 (.bin .ne (.t 27) (.k (.c (.int .i64 0)))) 26 false, B 29 (.pick (.t 26) (.k (.c (.bool true))) (.t 28)), B 30 (.nilck (.t 21)), B 31 (.fadr 1 (.t 30)), Bn (.store 1 (.t 31) (.t 29))] [0, 5, 6, 10, 11])
  (.seq (.reg [B 32 (.mv (.t 0)), B 33 (.nilck (.t 32)), B 34 (.fadr 1 (.t 33)), B 35 (.load false 1 (.t 34))] [0, 5, 6, 10, 11, 35])
  (.cond (.t 35) (.seq (.reg [B 4 (.asg (.k (.c (.sl 6 [] .nil))))] [4])
  .ret)
  .skip)))
  (.reg [B 36 (.mv (.t 5)), B 37 (.load true 6 (.t 6)), B 38 (.slR 6 1 [.int .i64 0, .int .i64 0, .int .i64 0, .str [], .sl 1 [] .nil, .sl 6 [] .nil] [(0, 6, (.t 37))]), B 39 (.app 6 88 (.t 36) (.t 38)), B 5 (.asg (.t 39))] [0, 5, 10, 11]))))
  (.reg [B 40 (.bin .add (.t 11) (.k (.c (.int .i64 1)))), B 11 (.mv (.t 40))] [0, 5, 10, 11])))))))
  (.seq (.reg [B 41 (.mv (.t 5)), B 4 (.asg (.t 41))] [4])
  .ret))))
def r66 : List ARes := [.tmp 4]
theorem k66 : bChk Tryz.prog 66 Tryz.f66 2 c66 r66 = true := by kernel_rfl
theorem p66 : Tryz.prog.funcs[66]? = some Tryz.f66 := by kernel_rfl

/-- (*scrivener/wire.reader).take -/
def c67 : BCode :=
  (.seq (.reg [B 4 (.asg (.k (.c (.sl 1 [] .nil))))] [0, 1])
  (.seq (.seq (.reg [B 6 (.mv (.t 0)), B 7 (.nilck (.t 6)), B 8 (.fadr 1 (.t 7)), B 9 (.load false 1 (.t 8)), B 10 (.mv (.t 9)), Bg 11 (.mv (.t 1)) 10 false, Bg 12 (.mv (.t 0)) 10 false, Bg 13 (.nilck (.t 12)) 10 false, Bg 14 (.fadr 0 (.t 13)) 10 false, Bg 15 (.load false 1 (.t 14)) 10 false, Bg 16 (.len (.t 15)) 10 false, Bg 17 (.bin .gt (.t 11) (.t 16)) 10 false, B 18 (.pick (.t 10) (.k (.c (.bool true))) (.t 17))] [0, 1, 18])
  (.cond (.t 18) (.seq (.reg [B 19 (.mv (.t 0)), B 20 (.nilck (.t 19)), B 21 (.fadr 1 (.t 20)), Bn (.store 1 (.t 21) (.k (.c (.bool true))))] [])
  (.seq (.reg [B 4 (.asg (.k (.c (.sl 1 [] .nil))))] [4])
  .ret))
  .skip))
  (.seq (.reg [B 22 (.mv (.t 0)), B 23 (.nilck (.t 22)), B 24 (.fadr 0 (.t 23)), B 25 (.load false 1 (.t 24)), B 26 (.mv (.t 1)), B 27 (.slice 1 (.t 25) none (some (.t 26)) none), B 5 (.asg (.t 27))] [0, 1, 5])
  (.seq (.reg [B 28 (.mv (.t 0)), B 29 (.mv (.t 0)), B 30 (.nilck (.t 29)), B 31 (.fadr 0 (.t 30)), B 32 (.load false 1 (.t 31)), B 33 (.mv (.t 1)), B 34 (.slice 1 (.t 32) (some (.t 33)) none none), B 35 (.nilck (.t 28)), B 36 (.fadr 0 (.t 35)), Bn (.store 1 (.t 36) (.t 34))] [5])
  (.seq (.reg [B 37 (.mv (.t 5)), B 4 (.asg (.t 37))] [4])
  .ret)))))
def r67 : List ARes := [.tmp 4]
theorem k67 : bChk Tryz.prog 67 Tryz.f67 2 c67 r67 = true := by kernel_rfl
theorem p67 : Tryz.prog.funcs[67]? = some Tryz.f67 := by kernel_rfl

/-- (*scrivener/client.Client).asks -/
def c68 : BCode :=
  (.seq (.reg [B 4 (.box (.t 1)), B 6 (.asg (.k (.c (.sl 3 [] .nil))))] [0, 2, 4])
  (.seq (.reg [B 9 (.mv (.t 0)), B 10 (.nilck (.t 9)), B 11 (.fadr 2 (.t 10)), B 12 (.load false 1 (.t 11)), B 13 (.bin .add (.t 12) (.k (.c (.int .u64 1)))), B 14 (.nilck (.t 9)), B 15 (.fadr 2 (.t 14)), Bn (.store 1 (.t 15) (.t 13))] [0, 2, 4])
  (.seq (.reg [B 16 (.mv (.t 0)), B 17 (.nilck (.t 16)), B 18 (.fadr 2 (.t 17)), B 19 (.load false 1 (.t 18)), B 20 (.conv .i64 (.t 19)), B 21 (.fadr 1 (.t 4)), Bn (.store 1 (.t 21) (.t 20))] [0, 2, 4])
  (.seq (.reg [B 23 (.load true 37 (.t 4)), B 24 (.call 28 [(.t 23)]), B 22 (.mv (.t 24)), B 25 (.extract 0 (.t 22)), B 26 (.extract 1 (.t 22)), B 7 (.asg (.t 25)), B 8 (.asg (.t 26))] [0, 2, 7, 8])
  (.seq (.seq (.reg [B 27 (.mv (.t 8)), B 28 (.bin .ne (.t 27) (.k (.c (.int .i64 0))))] [0, 2, 7, 8, 28])
  (.cond (.t 28) (.seq (.reg [B 29 (.mv (.t 0)), B 30 (.mv (.t 8)), B 31 (.call 111 [(.t 29), (.t 30)]), B 6 (.asg (.t 31))] [6])
  .ret)
  .skip))
  (.seq (.reg [B 32 (.mv (.t 0)), B 33 (.nilck (.t 32)), B 34 (.fadr 7 (.t 33)), B 35 (.load false 1 (.t 34)), B 36 (.mv (.t 2)), B 37 (.nilck (.t 35)), B 38 (.fadr 73 (.t 37)), Bn (.store 1 (.t 38) (.t 36))] [0, 7])
  (.seq (.reg [B 39 (.mv (.t 0)), B 40 (.mv (.t 0)), B 41 (.mv (.t 0)), B 42 (.mv (.t 7)), B 43 (.nilck (.t 39)), B 44 (.fadr 8 (.t 43)), Bn (.store 1 (.t 44) (.t 42)), B 45 (.nilck (.t 40)), B 46 (.fadr 9 (.t 45)), Bn (.store 1 (.t 46) (.k (.c (.int .i64 0)))), B 47 (.nilck (.t 41)), B 48 (.fadr 10 (.t 47)), Bn (.store 1 (.t 48) (.k (.c (.int .i64 1))))] [0])
  (.seq (.reg [B 49 (.mv (.t 0)), B 50 (.call 40 [(.t 49)]), B 6 (.asg (.t 50))] [6])
  .ret))))))))
def r68 : List ARes := [.tmp 6]
theorem k68 : bChk Tryz.prog 68 Tryz.f68 3 c68 r68 = true := by kernel_rfl
theorem p68 : Tryz.prog.funcs[68]? = some Tryz.f68 := by kernel_rfl

/-- (*scrivener/client.Client).opened -/
def c69 : BCode :=
  (.seq (.reg [B 3 (.boxR (.t 1)), B 4 (.asg (.k (.c (.sl 3 [] .nil))))] [0, 3])
  (.seq (.block 0 (.seq (.reg [B 6 (.fadr 1 (.t 3)), B 7 (.load false 1 (.t 6)), B 8 (.bin .ne (.t 7) (.k (.c (.int .i64 0)))), B 5 (.asg (.t 8))] [0, 3, 5])
  (.cond (.t 5) (.seq (.reg [B 9 (.mv (.t 0)), B 10 (.fadr 1 (.t 3)), B 11 (.load false 1 (.t 10)), B 12 (.call 111 [(.t 9), (.t 11)]), B 4 (.asg (.t 12))] [4])
  .ret)
  (.seq (.reg [B 14 (.fadr 2 (.t 3)), B 15 (.load false 1 (.t 14)), B 16 (.len (.t 15)), B 17 (.bin .ne (.t 16) (.k (.c (.int .i64 1)))), B 13 (.asg (.t 17))] [0, 3, 13])
  (.cond (.t 13) (.seq (.reg [B 18 (.mv (.t 0)), B 19 (.call 111 [(.t 18), (.k (.c (.int .i64 19)))]), B 4 (.asg (.t 19))] [4])
  .ret)
  .skip)))))
  (.seq (.reg [B 20 (.mv (.t 0)), B 21 (.mv (.t 0)), B 22 (.fadr 2 (.t 3)), B 23 (.load false 1 (.t 22)), B 24 (.iadr 1 (.t 23) (.k (.c (.int .i64 0)))), B 25 (.load false 1 (.t 24)), B 26 (.nilck (.t 20)), B 27 (.fadr 3 (.t 26)), Bn (.store 1 (.t 27) (.t 25)), B 28 (.nilck (.t 21)), B 29 (.fadr 4 (.t 28)), Bn (.store 1 (.t 29) (.k (.c (.bool true))))] [0])
  (.seq (.reg [B 30 (.mv (.t 0)), B 31 (.call 38 [(.t 30)]), B 4 (.asg (.t 31))] [4])
  .ret))))
def r69 : List ARes := [.tmp 4]
theorem k69 : bChk Tryz.prog 69 Tryz.f69 2 c69 r69 = true := by kernel_rfl
theorem p69 : Tryz.prog.funcs[69]? = some Tryz.f69 := by kernel_rfl

/-- (*scrivener/client.Client).started -/
def c70 : BCode :=
  (.seq (.reg [B 3 (.boxR (.t 1)), B 4 (.asg (.k (.c (.sl 3 [] .nil))))] [0, 3])
  (.seq (.block 0 (.seq (.reg [B 6 (.fadr 1 (.t 3)), B 7 (.load false 1 (.t 6)), B 8 (.bin .eq (.t 7) (.k (.c (.int .i64 7)))), B 5 (.asg (.t 8))] [0, 3, 5])
  (.cond (.t 5) (.seq (.reg [B 9 (.mv (.t 0)), B 10 (.nilck (.t 9)), B 11 (.fadr 4 (.t 10)), Bn (.store 1 (.t 11) (.k (.c (.bool false))))] [0])
  (.seq (.reg [B 12 (.mv (.t 0)), B 13 (.call 38 [(.t 12)]), B 4 (.asg (.t 13))] [4])
  .ret))
  (.seq (.reg [B 15 (.fadr 1 (.t 3)), B 16 (.load false 1 (.t 15)), B 17 (.bin .ne (.t 16) (.k (.c (.int .i64 0)))), B 14 (.asg (.t 17))] [0, 3, 14])
  (.cond (.t 14) (.seq (.reg [B 18 (.mv (.t 0)), B 19 (.fadr 1 (.t 3)), B 20 (.load false 1 (.t 19)), B 21 (.call 111 [(.t 18), (.t 20)]), B 4 (.asg (.t 21))] [4])
  .ret)
  (.seq (.reg [B 23 (.fadr 2 (.t 3)), B 24 (.load false 1 (.t 23)), B 25 (.len (.t 24)), B 26 (.bin .ne (.t 25) (.k (.c (.int .i64 1)))), B 22 (.asg (.t 26))] [0, 3, 22])
  (.cond (.t 22) (.seq (.reg [B 27 (.mv (.t 0)), B 28 (.call 111 [(.t 27), (.k (.c (.int .i64 19)))]), B 4 (.asg (.t 28))] [4])
  .ret)
  .skip)))))))
  (.seq (.regd [Oo 29 (.mv (.t 0)), Oo 30 (.nilck (.t 29)), Oo 31 (.fadr 7 (.t 30)), Oo 32 (.load false 1 (.t 31)), Oo 33 (.mv (.t 0)), Oo 34 (.nilck (.t 33)), Oo 35 (.fadr 7 (.t 34)), Oo 36 (.load false 1 (.t 35)), Oo 37 (.fadr 2 (.t 3)), Oo 38 (.load false 1 (.t 37)), Oo 39 (.iadr 1 (.t 38) (.k (.c (.int .i64 0)))), Oo 40 (.load false 1 (.t 39)), Oo 41 (.nilck (.t 32)), Oo 42 (.fadr 3 (.t 41)), On (.store 1 (.t 42) (.t 40)), Oo 43 (.nilck (.t 36)), Oo 44 (.fadr 36 (.t 43)), On (.store 1 (.t 44) (.k (.c (.sl 1 [] .nil))))]
    (.fl 0 (.fl 1 (.fl 2 (.fl 3 (.fl 4 (.fl 5 (.fl 6 (.fl 7 (.fl 8 (.fl 9 (.fl 10 (.fl 11 (.fl 12 (.fl 13 (.ch 14 [] (.fl 15 (.fl 16 (.ch 17 [] .done)))))))))))))))))) [0])
  (.seq (.regd [Oo 45 (.mv (.t 0)), Oo 46 (.nilck (.t 45)), Oo 47 (.fadr 7 (.t 46)), Oo 48 (.load false 1 (.t 47)), Oo 49 (.mv (.t 0)), Oo 50 (.nilck (.t 49)), Oo 51 (.fadr 7 (.t 50)), Oo 52 (.load false 1 (.t 51)), Oo 53 (.nilck (.t 52)), Oo 54 (.fadr 3 (.t 53)), Oo 55 (.load false 1 (.t 54)), Oo 56 (.call 112 [(.t 55)]), Oo 57 (.nilck (.t 48)), Oo 58 (.fadr 4 (.t 57)), On (.store 32 (.t 58) (.t 56))]
    (.fl 0 (.fl 1 (.fl 2 (.fl 3 (.fl 4 (.fl 5 (.fl 6 (.fl 7 (.fl 8 (.fl 9 (.fl 10 (.ch 11 [3] (.fl 12 (.fl 13 (.ch 14 [] .done))))))))))))))) [0])
  (.seq (.reg [B 59 (.mv (.t 0)), B 60 (.call 113 [(.t 59)]), B 4 (.asg (.t 60))] [4])
  .ret)))))
def r70 : List ARes := [.tmp 4]
theorem k70 : bChk Tryz.prog 70 Tryz.f70 2 c70 r70 = true := by kernel_rfl
theorem p70 : Tryz.prog.funcs[70]? = some Tryz.f70 := by kernel_rfl

/-- slices.Clone[[]byte,byte] -/
def c71 : BCode :=
  (.seq (.reg [B 2 (.asg (.k (.c (.sl 1 [] .nil))))] [0])
  (.seq (.seq (.reg [B 3 (.mv (.t 0)), B 4 (.bin .eqnil (.t 3) (.k (.c (.sl 1 [] .nil))))] [0, 4])
  (.cond (.t 4) (.seq (.reg [B 2 (.asg (.k (.c (.sl 1 [] .nil))))] [2])
  .ret)
  .skip))
  (.seq (.reg [B 5 (.slE 1), B 6 (.mv (.t 0)), B 7 (.app 1 1 (.t 5) (.t 6)), B 2 (.asg (.t 7))] [2])
  .ret)))
def r71 : List ARes := [.tmp 2]
theorem k71 : bChk Tryz.prog 71 Tryz.f71 1 c71 r71 = true := by kernel_rfl
theorem p71 : Tryz.prog.funcs[71]? = some Tryz.f71 := by kernel_rfl

/-- scrivener/scrivenerref4.Decode -/
def c72 : BCode :=
  (.seq (.reg [B 2 (.asg (.k (.c (.sl 1 [] .nil)))), B 3 (.asg (.k (.c (.int .i64 0)))), B 4 (.asg (.k (.c (.int .i64 0))))] [0])
  (.seq (.seq (.reg [B 10 (.mv (.t 0)), B 11 (.len (.t 10)), B 12 (.bin .lt (.t 11) (.k (.c (.int .i64 8))))] [0, 12])
  (.cond (.t 12) (.seq (.reg [B 2 (.asg (.k (.c (.sl 1 [] .nil)))), B 3 (.asg (.k (.c (.int .i64 0)))), B 4 (.asg (.k (.c (.int .i64 2))))] [2, 3, 4])
  .ret)
  .skip))
  (.seq (.reg [B 14 (.mv (.t 0)), B 15 (.call 114 [(.t 14)]), B 13 (.mv (.t 15)), B 16 (.extract 0 (.t 13)), B 17 (.extract 1 (.t 13)), B 5 (.asg (.t 16)), B 6 (.asg (.t 17))] [0, 5])
  (.seq (.reg [B 19 (.mv (.t 0)), B 20 (.slice 1 (.t 19) (some (.k (.c (.int .i64 4)))) none none), B 21 (.call 114 [(.t 20)]), B 18 (.mv (.t 21)), B 22 (.extract 0 (.t 18)), B 23 (.extract 1 (.t 18)), B 7 (.asg (.t 22)), B 8 (.asg (.t 23))] [0, 5, 7])
  (.seq (.seq (.reg [B 24 (.mv (.t 7)), B 25 (.mv (.t 0)), B 26 (.slice 1 (.t 25) none (some (.k (.c (.int .i64 4)))) none), B 27 (.call 61 [(.t 26)]), B 28 (.bin .ne (.t 24) (.t 27))] [0, 5, 28])
  (.cond (.t 28) (.seq (.reg [B 2 (.asg (.k (.c (.sl 1 [] .nil)))), B 3 (.asg (.k (.c (.int .i64 0)))), B 4 (.asg (.k (.c (.int .i64 4))))] [2, 3, 4])
  .ret)
  .skip))
  (.seq (.seq (.reg [B 29 (.mv (.t 5)), B 30 (.bin .gt (.t 29) (.k (.c (.int .u32 524288))))] [0, 5, 30])
  (.cond (.t 30) (.seq (.reg [B 2 (.asg (.k (.c (.sl 1 [] .nil)))), B 3 (.asg (.k (.c (.int .i64 0)))), B 4 (.asg (.k (.c (.int .i64 5))))] [2, 3, 4])
  .ret)
  .skip))
  (.seq (.reg [B 31 (.mv (.t 5)), B 32 (.conv .i64 (.t 31)), B 33 (.bin .add (.k (.c (.int .i64 8))) (.t 32)), B 9 (.asg (.t 33))] [0, 9])
  (.seq (.seq (.reg [B 34 (.mv (.t 0)), B 35 (.len (.t 34)), B 36 (.mv (.t 9)), B 37 (.bin .add (.t 36) (.k (.c (.int .i64 4)))), B 38 (.bin .lt (.t 35) (.t 37))] [0, 9, 38])
  (.cond (.t 38) (.seq (.reg [B 2 (.asg (.k (.c (.sl 1 [] .nil)))), B 3 (.asg (.k (.c (.int .i64 0)))), B 4 (.asg (.k (.c (.int .i64 2))))] [2, 3, 4])
  .ret)
  .skip))
  (.seq (.reg [B 40 (.mv (.t 0)), B 41 (.mv (.t 9)), B 42 (.slice 1 (.t 40) (some (.t 41)) none none), B 43 (.call 114 [(.t 42)]), B 39 (.mv (.t 43)), B 44 (.extract 0 (.t 39)), B 45 (.extract 1 (.t 39)), B 7 (.asg (.t 44))] [0, 7, 9])
  (.seq (.seq (.reg [B 46 (.mv (.t 7)), B 47 (.mv (.t 0)), B 48 (.mv (.t 9)), B 49 (.slice 1 (.t 47) none (some (.t 48)) none), B 50 (.call 61 [(.t 49)]), B 51 (.bin .ne (.t 46) (.t 50))] [0, 9, 51])
  (.cond (.t 51) (.seq (.reg [B 2 (.asg (.k (.c (.sl 1 [] .nil)))), B 3 (.asg (.k (.c (.int .i64 0)))), B 4 (.asg (.k (.c (.int .i64 4))))] [2, 3, 4])
  .ret)
  .skip))
  (.seq (.reg [B 52 (.slE 1), B 53 (.mv (.t 0)), B 54 (.mv (.t 9)), B 55 (.slice 1 (.t 53) (some (.k (.c (.int .i64 8)))) (some (.t 54)) none), B 56 (.app 1 1 (.t 52) (.t 55)), B 57 (.mv (.t 9)), B 58 (.bin .add (.t 57) (.k (.c (.int .i64 4)))), B 2 (.asg (.t 56)), B 3 (.asg (.t 58)), B 4 (.asg (.k (.c (.int .i64 0))))] [2, 3, 4])
  .ret)))))))))))
def r72 : List ARes := [.tmp 2, .tmp 3, .tmp 4]
theorem k72 : bChk Tryz.prog 72 Tryz.f72 1 c72 r72 = true := by kernel_rfl
theorem p72 : Tryz.prog.funcs[72]? = some Tryz.f72 := by kernel_rfl

/-- scrivener/scrivenerref1.Zag -/
def c73 : BCode :=
  (.seq (.reg [B 2 (.asg (.k (.c (.int .i64 0))))] [0])
  (.seq (.seq (.reg [B 3 (.mv (.t 0)), B 4 (.bin .rem (.t 3) (.k (.c (.int .u64 2)))), B 5 (.bin .eq (.t 4) (.k (.c (.int .u64 0))))] [0, 5])
  (.cond (.t 5) (.seq (.reg [B 6 (.mv (.t 0)), B 7 (.bin .quo (.t 6) (.k (.c (.int .u64 2)))), B 8 (.conv .i64 (.t 7)), B 2 (.asg (.t 8))] [2])
  .ret)
  .skip))
  (.seq (.reg [B 9 (.mv (.t 0)), B 10 (.bin .quo (.t 9) (.k (.c (.int .u64 2)))), B 11 (.conv .i64 (.t 10)), B 12 (.neg (.t 11)), B 13 (.bin .sub (.t 12) (.k (.c (.int .i64 1)))), B 2 (.asg (.t 13))] [2])
  .ret)))
def r73 : List ARes := [.tmp 2]
theorem k73 : bChk Tryz.prog 73 Tryz.f73 1 c73 r73 = true := by kernel_rfl
theorem p73 : Tryz.prog.funcs[73]? = some Tryz.f73 := by kernel_rfl

/-- (*scrivener/scrivenerref25.reader).number -/
def c74 : BCode :=
  (.seq (.reg [B 2 (.asg (.k (.c (.int .u64 0))))] [0])
  (.seq (.seq (.reg [B 6 (.mv (.t 0)), B 7 (.nilck (.t 6)), B 8 (.fadr 1 (.t 7)), B 9 (.load false 1 (.t 8))] [0, 9])
  (.cond (.t 9) (.seq (.reg [B 2 (.asg (.k (.c (.int .u64 0))))] [2])
  .ret)
  .skip))
  (.seq (.reg [B 11 (.mv (.t 0)), B 12 (.nilck (.t 11)), B 13 (.fadr 0 (.t 12)), B 14 (.load false 1 (.t 13)), B 15 (.call 115 [(.t 14)]), B 10 (.mv (.t 15)), B 16 (.extract 0 (.t 10)), B 17 (.extract 1 (.t 10)), B 18 (.extract 2 (.t 10)), B 3 (.asg (.t 16)), B 4 (.asg (.t 17)), B 5 (.asg (.t 18))] [0, 3, 4, 5])
  (.seq (.seq (.reg [B 19 (.mv (.t 5)), B 20 (.bin .ne (.t 19) (.k (.c (.int .i64 0))))] [0, 3, 4, 20])
  (.cond (.t 20) (.seq (.reg [B 21 (.mv (.t 0)), B 22 (.nilck (.t 21)), B 23 (.fadr 1 (.t 22)), Bn (.store 1 (.t 23) (.k (.c (.bool true))))] [])
  (.seq (.reg [B 2 (.asg (.k (.c (.int .u64 0))))] [2])
  .ret))
  .skip))
  (.seq (.reg [B 24 (.mv (.t 0)), B 25 (.mv (.t 0)), B 26 (.nilck (.t 25)), B 27 (.fadr 0 (.t 26)), B 28 (.load false 1 (.t 27)), B 29 (.mv (.t 4)), B 30 (.slice 1 (.t 28) (some (.t 29)) none none), B 31 (.nilck (.t 24)), B 32 (.fadr 0 (.t 31)), Bn (.store 1 (.t 32) (.t 30))] [3])
  (.seq (.reg [B 33 (.mv (.t 3)), B 2 (.asg (.t 33))] [2])
  .ret))))))
def r74 : List ARes := [.tmp 2]
theorem k74 : bChk Tryz.prog 74 Tryz.f74 1 c74 r74 = true := by kernel_rfl
theorem p74 : Tryz.prog.funcs[74]? = some Tryz.f74 := by kernel_rfl

/-- scrivener/scrivenerref7.Decode -/
def c75 : BCode :=
  (.seq (.reg [B 2 (.alloc [.int .i64 0, .int .i64 0, .int .i64 0, .str [], .sl 1 [] .nil, .sl 6 [] .nil]), B 3 (.asg (.k (.c (.int .i64 0))))] [0, 2])
  (.seq (.reg [B 6 (.mv (.t 0)), B 7 (.build [.sl 1 [] .nil, .int .i64 0] [(0, 1, (.t 6))]), B 8 (.box (.t 7)), B 4 (.asg (.t 8))] [0, 2, 4])
  (.seq (.reg [B 9 (.mv (.t 4)), B 10 (.call 116 [(.t 9), (.k (.c (.int .i64 1)))]), B 5 (.alloc [.int .i64 0, .int .i64 0, .int .i64 0, .str [], .sl 1 [] .nil, .sl 6 [] .nil]), Bn (.store 6 (.t 5) (.t 10))] [0, 2, 4, 5])
  (.seq (.seq (.reg [B 11 (.mv (.t 4)), B 12 (.nilck (.t 11)), B 13 (.fadr 1 (.t 12)), B 14 (.load false 1 (.t 13)), B 15 (.bin .eq (.t 14) (.k (.c (.int .i64 0))))] [0, 2, 4, 5, 15])
  (.cond (.t 15) (.reg [B 16 (.mv (.t 4)), B 17 (.load true 6 (.t 5)), B 18 (.call 104 [(.t 17)]), B 19 (.nilck (.t 16)), B 20 (.fadr 1 (.t 19)), Bn (.store 1 (.t 20) (.t 18))] [0, 2, 4, 5])
  .skip))
  (.seq (.seq (.reg [B 21 (.mv (.t 4)), B 22 (.nilck (.t 21)), B 23 (.fadr 1 (.t 22)), B 24 (.load false 1 (.t 23)), B 25 (.bin .eq (.t 24) (.k (.c (.int .i64 0)))), B 26 (.mv (.t 25)), Bg 27 (.mv (.t 4)) 26 true, Bg 28 (.nilck (.t 27)) 26 true, Bg 29 (.fadr 0 (.t 28)) 26 true, Bg 30 (.load false 1 (.t 29)) 26 true, Bg 31 (.len (.t 30)) 26 true, Bg 32 (.bin .gt (.t 31) (.k (.c (.int .i64 0)))) 26 true, B 33 (.pick (.t 26) (.t 32) (.k (.c (.bool false))))] [0, 2, 4, 5, 33])
  (.cond (.t 33) (.reg [B 34 (.mv (.t 4)), B 35 (.nilck (.t 34)), B 36 (.fadr 1 (.t 35)), Bn (.store 1 (.t 36) (.k (.c (.int .i64 3))))] [0, 2, 4, 5])
  .skip))
  (.seq (.seq (.reg [B 37 (.mv (.t 4)), B 38 (.nilck (.t 37)), B 39 (.fadr 1 (.t 38)), B 40 (.load false 1 (.t 39)), B 41 (.bin .eq (.t 40) (.k (.c (.int .i64 0)))), B 42 (.mv (.t 41)), Bg 43 (.mv (.t 0)) 42 true, Bg 44 (.len (.t 43)) 42 true, Bg 45 (.bin .gt (.t 44) (.k (.c (.int .i64 65536)))) 42 true, B 46 (.pick (.t 42) (.t 45) (.k (.c (.bool false))))] [2, 4, 5, 46])
  (.cond (.t 46) (.reg [B 47 (.mv (.t 4)), B 48 (.nilck (.t 47)), B 49 (.fadr 1 (.t 48)), Bn (.store 1 (.t 49) (.k (.c (.int .i64 5))))] [2, 4, 5])
  .skip))
  (.seq (.seq (.reg [B 50 (.mv (.t 4)), B 51 (.nilck (.t 50)), B 52 (.fadr 1 (.t 51)), B 53 (.load false 1 (.t 52)), B 54 (.bin .ne (.t 53) (.k (.c (.int .i64 0))))] [2, 4, 5, 54])
  (.cond (.t 54) (.seq (.regd [Oo 55 (.build [.int .i64 0, .int .i64 0, .int .i64 0, .str [], .sl 1 [] .nil, .sl 6 [] .nil] []), Oo 56 (.mv (.t 4)), Oo 57 (.nilck (.t 56)), Oo 58 (.fadr 1 (.t 57)), Oo 59 (.load false 1 (.t 58)), On (.store 6 (.t 2) (.t 55)), Oo 3 (.asg (.t 59))]
    (.fl 0 (.fl 1 (.fl 2 (.fl 3 (.fl 4 (.ch 5 [4] (.ch 6 [] .done))))))) [2, 3])
  .ret)
  .skip))
  (.seq (.reg [B 60 (.load true 6 (.t 5)), Bn (.store 6 (.t 2) (.t 60)), B 3 (.asg (.k (.c (.int .i64 0))))] [2, 3])
  .ret))))))))
def r75 : List ARes := [.cell 2 true 6, .tmp 3]
theorem k75 : bChk Tryz.prog 75 Tryz.f75 1 c75 r75 = true := by kernel_rfl
theorem p75 : Tryz.prog.funcs[75]? = some Tryz.f75 := by kernel_rfl

/-- scrivener/scrivenerref12.Open -/
def c88 : BCode :=
  (.seq (.reg [B 2 (.asg (.k (.c (.nilp)))), B 3 (.asg (.k (.c (.int .i64 0))))] [0])
  (.seq (.seq (.reg [B 10 (.mv (.t 0)), B 11 (.bin .eqnil (.t 10) (.k (.c (.nilp))))] [0, 11])
  (.cond (.t 11) (.seq (.reg [B 2 (.asg (.k (.c (.nilp)))), B 3 (.asg (.k (.c (.int .i64 1))))] [2, 3])
  .ret)
  .skip))
  (.seq (.reg [B 12 (.mv (.t 0)), B 13 (.build [.nilp, .sl 36 [] .nil, .sl 32 [] .nil, .bool false] [(0, 1, (.t 12))]), B 14 (.box (.t 13)), B 4 (.asg (.t 14))] [0, 4])
  (.seq (.reg [B 16 (.mv (.t 0)), B 17 (.call 141 [(.t 16), (.k (.c (.str [106, 111, 117, 114, 110, 97, 108])))]), B 15 (.mv (.t 17)), B 18 (.extract 0 (.t 15)), B 19 (.extract 1 (.t 15)), B 5 (.asg (.t 18)), B 6 (.asg (.t 19))] [0, 4, 5, 6])
  (.seq (.seq (.reg [B 20 (.mv (.t 6)), B 21 (.bin .eq (.t 20) (.k (.c (.int .i64 0))))] [0, 4, 5, 21])
  (.cond (.t 21) (.seq (.reg [B 23 (.mv (.t 5)), B 24 (.call 142 [(.t 23)]), B 22 (.mv (.t 24)), B 25 (.extract 0 (.t 22)), B 26 (.extract 1 (.t 22)), B 27 (.extract 2 (.t 22)), B 7 (.asg (.t 25)), B 8 (.asg (.t 26)), B 9 (.asg (.t 27))] [0, 4, 5, 7, 8])
  (.seq (.seq (.reg [B 28 (.mv (.t 8)), B 29 (.mv (.t 5)), B 30 (.len (.t 29)), B 31 (.bin .lt (.t 28) (.t 30))] [0, 4, 7, 8, 31])
  (.cond (.t 31) (.seq (.reg [B 32 (.mv (.t 0)), B 33 (.mv (.t 8)), B 34 (.call 143 [(.t 32), (.k (.c (.str [106, 111, 117, 114, 110, 97, 108]))), (.t 33)]), B 6 (.asg (.t 34))] [0, 4, 6, 7])
  (.seq (.seq (.reg [B 35 (.mv (.t 6)), B 36 (.bin .eq (.t 35) (.k (.c (.int .i64 0))))] [0, 4, 6, 7, 36])
  (.cond (.t 36) (.reg [B 37 (.mv (.t 0)), B 38 (.call 144 [(.t 37), (.k (.c (.str [106, 111, 117, 114, 110, 97, 108])))]), B 6 (.asg (.t 38))] [4, 6, 7])
  .skip))
  (.seq (.reg [B 39 (.mv (.t 6)), B 40 (.bin .ne (.t 39) (.k (.c (.int .i64 0))))] [4, 6, 7, 40])
  (.cond (.t 40) (.seq (.reg [B 41 (.mv (.t 6)), B 2 (.asg (.k (.c (.nilp)))), B 3 (.asg (.t 41))] [2, 3])
  .ret)
  .skip))))
  .skip))
  (.seq (.reg [B 42 (.mv (.t 4)), B 43 (.mv (.t 7)), B 44 (.call 145 [(.t 42), (.t 43)]), B 6 (.asg (.t 44))] [4, 6])
  (.seq (.reg [B 45 (.mv (.t 6)), B 46 (.bin .ne (.t 45) (.k (.c (.int .i64 0))))] [4, 6, 46])
  (.cond (.t 46) (.seq (.reg [B 47 (.mv (.t 6)), B 2 (.asg (.k (.c (.nilp)))), B 3 (.asg (.t 47))] [2, 3])
  .ret)
  .skip)))))
  .skip))
  (.seq (.reg [B 48 (.mv (.t 4)), B 49 (.call 146 [(.t 48)]), B 6 (.asg (.t 49))] [4, 6])
  (.seq (.seq (.reg [B 50 (.mv (.t 6)), B 51 (.bin .ne (.t 50) (.k (.c (.int .i64 0))))] [4, 6, 51])
  (.cond (.t 51) (.seq (.reg [B 52 (.mv (.t 6)), B 2 (.asg (.k (.c (.nilp)))), B 3 (.asg (.t 52))] [2, 3])
  .ret)
  .skip))
  (.seq (.reg [B 53 (.mv (.t 4)), B 2 (.asg (.t 53)), B 3 (.asg (.k (.c (.int .i64 0))))] [2, 3])
  .ret))))))))
def r88 : List ARes := [.tmp 2, .tmp 3]
theorem k88 : bChk Tryz.prog 88 Tryz.f88 1 c88 r88 = true := by kernel_rfl
theorem p88 : Tryz.prog.funcs[88]? = some Tryz.f88 := by kernel_rfl

/-- scrivener/scrivenerref15.New -/
def c89 : BCode :=
  (.seq (.reg [B 0 (.asg (.k (.c (.nilp))))] [])
  (.seq (.reg [B 1 (.build [.sl 4 [] .nil] []), B 2 (.box (.t 1)), B 3 (.mkmap), B 4 (.build [.nilp, .sl 14 [] .nil, .int .i64 0, .nilmap] [(0, 1, (.t 2)), (3, 1, (.t 3))]), B 5 (.box (.t 4)), B 0 (.asg (.t 5))] [0])
  .ret))
def r89 : List ARes := [.tmp 0]
theorem k89 : bChk Tryz.prog 89 Tryz.f89 0 c89 r89 = true := by kernel_rfl
theorem p89 : Tryz.prog.funcs[89]? = some Tryz.f89 := by kernel_rfl

/-- (*scrivener/scrivenerref15.Views).Copy -/
def c90 : BCode :=
  (.seq (.reg [B 2 (.asg (.k (.c (.nilp))))] [0])
  (.seq (.reg [B 6 (.mkmap), B 3 (.asg (.t 6))] [0, 3])
  (.seq (.seq (.reg [B 4 (.asg (.k (.c (.int .i64 0))))] [0, 3, 4])
  (.block 0 (.loop (.seq (.seq (.reg [B 7 (.mv (.t 4)), B 8 (.mv (.t 0)), B 9 (.nilck (.t 8)), B 10 (.fadr 1 (.t 9)), B 11 (.load false 1 (.t 10)), B 12 (.len (.t 11)), B 13 (.bin .lt (.t 7) (.t 12))] [0, 3, 4, 13])
  (.cond (.t 13) .skip
  (.exit 0)))
  (.seq (.block 1 (.seq (.regd [Oo 16 (.mv (.t 0)), Oo 17 (.nilck (.t 16)), Oo 18 (.fadr 1 (.t 17)), Oo 19 (.load false 1 (.t 18)), Oo 20 (.mv (.t 4)), Oo 21 (.iadr 14 (.t 19) (.t 20)), Oo 22 (.fadr 11 (.t 21)), Oo 23 (.load false 1 (.t 22)), Oo 24 (.mv (.t 0)), Oo 25 (.nilck (.t 24)), Oo 26 (.fadr 1 (.t 25)), Oo 27 (.load false 1 (.t 26)), Oo 28 (.mv (.t 4)), Oo 29 (.iadr 14 (.t 27) (.t 28)), Oo 30 (.fadr 12 (.t 29)), Oo 31 (.load false 1 (.t 30)), Oo 32 (.build [.int .i64 0, .int .i64 0] [(0, 1, (.t 23)), (1, 1, (.t 31))]), Oo 5 (.alloc [.int .i64 0, .int .i64 0]), On (.store 2 (.t 5) (.t 32))]
    (.fl 0 (.fl 1 (.fl 2 (.fl 3 (.fl 4 (.fl 5 (.fl 6 (.fl 7 (.fl 8 (.fl 9 (.fl 10 (.fl 11 (.fl 12 (.fl 13 (.fl 14 (.fl 15 (.fl 16 (.ch 17 [3, 5, 7, 11, 13, 15] (.ch 18 [] .done))))))))))))))))))) [0, 3, 4, 5])
  (.seq (.regd [Oo 33 (.mv (.t 0)), Oo 34 (.nilck (.t 33)), Oo 35 (.fadr 3 (.t 34)), Oo 36 (.load false 1 (.t 35)), Oo 37 (.load true 2 (.t 5)), Oo 38 (.lookup false (true, [.i .i64, .i .i64]) (.c (.int .i64 0)) (.t 36) (.t 37)), Oo 39 (.bin .ne (.t 38) (.k (.c (.int .i64 0))))]
    (.fl 0 (.fl 1 (.fl 2 (.fl 3 (.fl 4 (.fl 5 (.fl 6 .done))))))) [0, 3, 4, 5, 39])
  (.cond (.t 39) (.reg [B 40 (.mv (.t 3)), B 41 (.load true 2 (.t 5)), Bn (.mupd (true, [.i .i64, .i .i64]) (.t 40) (.t 41) (.k (.c (.int .i64 1))))] [0, 3, 4])
  .skip))))
  (.reg [B 14 (.mv (.t 4)), B 15 (.bin .add (.t 14) (.k (.c (.int .i64 1)))), B 4 (.asg (.t 15))] [0, 3, 4]))))))
  (.seq (.regd [Oo 42 (.mv (.t 0)), Oo 43 (.nilck (.t 42)), Oo 44 (.fadr 0 (.t 43)), Oo 45 (.load false 1 (.t 44)), Oo 46 (.call 147 [(.t 45)]), Oo 47 (.slE 14), Oo 48 (.mv (.t 0)), Oo 49 (.nilck (.t 48)), Oo 50 (.fadr 1 (.t 49)), Oo 51 (.load false 1 (.t 50)), Oo 52 (.app 14 144 (.t 47) (.t 51)), Oo 53 (.mv (.t 0)), Oo 54 (.nilck (.t 53)), Oo 55 (.fadr 2 (.t 54)), Oo 56 (.load false 1 (.t 55)), Oo 57 (.mv (.t 3)), Oo 58 (.build [.nilp, .sl 14 [] .nil, .int .i64 0, .nilmap] [(0, 1, (.t 46)), (1, 1, (.t 52)), (2, 1, (.t 56)), (3, 1, (.t 57))]), Oo 59 (.box (.t 58)), Oo 2 (.asg (.t 59))]
    (.fl 0 (.fl 1 (.fl 2 (.fl 3 (.fl 5 (.fl 6 (.fl 7 (.fl 8 (.fl 9 (.fl 11 (.fl 12 (.fl 13 (.fl 14 (.fl 15 (.ch 4 [9, 14] (.ch 10 [14] (.fl 16 (.ch 17 [] (.ch 18 [] .done))))))))))))))))))) [2])
  .ret))))
def r90 : List ARes := [.tmp 2]
theorem k90 : bChk Tryz.prog 90 Tryz.f90 1 c90 r90 = true := by kernel_rfl
theorem p90 : Tryz.prog.funcs[90]? = some Tryz.f90 := by kernel_rfl

/-- (*scrivener/scrivenerref15.Views).Apply -/
def c91 : BCode :=
  (.seq (.reg [B 3 (.boxR (.t 1)), B 4 (.asg (.k (.c (.int .i64 0))))] [0, 3])
  (.seq (.seq (.regd [Oo 9 (.fadr 0 (.t 3)), Oo 10 (.load false 1 (.t 9)), Oo 11 (.mv (.t 0)), Oo 12 (.nilck (.t 11)), Oo 13 (.fadr 2 (.t 12)), Oo 14 (.load false 1 (.t 13)), Oo 15 (.bin .ne (.t 10) (.t 14))]
    (.fl 0 (.fl 1 (.fl 2 (.fl 3 (.fl 4 (.fl 5 (.fl 6 .done))))))) [0, 3, 15])
  (.cond (.t 15) (.seq (.reg [B 4 (.asg (.k (.c (.int .i64 3))))] [4])
  .ret)
  .skip))
  (.seq (.reg [B 16 (.load true 36 (.t 3)), B 17 (.call 148 [(.t 16)]), B 5 (.asg (.t 17))] [0, 3, 5])
  (.seq (.seq (.reg [B 18 (.mv (.t 5)), B 19 (.bin .ne (.t 18) (.k (.c (.int .i64 0))))] [0, 3, 5, 19])
  (.cond (.t 19) (.seq (.reg [B 20 (.mv (.t 5)), B 4 (.asg (.t 20))] [4])
  .ret)
  .skip))
  (.seq (.reg [B 21 (.mv (.t 0)), B 22 (.call 90 [(.t 21)]), B 6 (.asg (.t 22))] [0, 3, 6])
  (.seq (.seq (.reg [B 7 (.asg (.k (.c (.int .i64 0))))] [0, 3, 6, 7])
  (.block 0 (.loop (.seq (.seq (.reg [B 23 (.mv (.t 7)), B 24 (.fadr 35 (.t 3)), B 25 (.load false 1 (.t 24)), B 26 (.len (.t 25)), B 27 (.bin .lt (.t 23) (.t 26))] [0, 3, 6, 7, 27])
  (.cond (.t 27) .skip
  (.exit 0)))
  (.seq (.block 1 (.seq (.reg [B 30 (.mv (.t 6)), B 31 (.load true 36 (.t 3)), B 32 (.mv (.t 7)), B 33 (.call 149 [(.t 30), (.t 31), (.t 32)]), B 8 (.asg (.t 33))] [0, 3, 6, 7, 8])
  (.seq (.reg [B 34 (.mv (.t 8)), B 35 (.bin .ne (.t 34) (.k (.c (.int .i64 0))))] [0, 3, 6, 7, 8, 35])
  (.cond (.t 35) (.seq (.reg [B 36 (.mv (.t 8)), B 4 (.asg (.t 36))] [4])
  .ret)
  .skip))))
  (.reg [B 28 (.mv (.t 7)), B 29 (.bin .add (.t 28) (.k (.c (.int .i64 1)))), B 7 (.asg (.t 29))] [0, 3, 6, 7]))))))
  (.seq (.reg [B 37 (.mv (.t 6)), B 38 (.nilck (.t 37)), B 39 (.fadr 2 (.t 38)), B 40 (.load false 1 (.t 39)), B 41 (.bin .add (.t 40) (.k (.c (.int .i64 1)))), B 42 (.nilck (.t 37)), B 43 (.fadr 2 (.t 42)), Bn (.store 1 (.t 43) (.t 41))] [0, 6])
  (.seq (.reg [B 44 (.mv (.t 0)), B 45 (.mv (.t 6)), B 46 (.nilck (.t 45)), B 47 (.load true 4 (.t 46)), B 48 (.nilck (.t 44)), Bn (.store 4 (.t 48) (.t 47))] [])
  (.seq (.reg [B 4 (.asg (.k (.c (.int .i64 0))))] [4])
  .ret)))))))))
def r91 : List ARes := [.tmp 4]
theorem k91 : bChk Tryz.prog 91 Tryz.f91 2 c91 r91 = true := by kernel_rfl
theorem p91 : Tryz.prog.funcs[91]? = some Tryz.f91 := by kernel_rfl

/-- scrivener/scrivenerref22.opening -/
def c92 : BCode :=
  (.seq (.reg [B 2 (.asg (.k (.c (.int .i64 0))))] [0])
  (.seq (.reg [B 3 (.asg (.k (.c (.int .i64 (-1)))))] [0, 3])
  (.seq (.reg [B 10 (.mv (.t 0)), B 11 (.call 150 [(.t 10)]), B 4 (.asg (.t 11))] [3, 4])
  (.seq (.seq (.reg [B 5 (.asg (.k (.c (.int .i64 0))))] [3, 4, 5])
  (.block 0 (.loop (.seq (.seq (.reg [B 12 (.mv (.t 5)), B 13 (.mv (.t 4)), B 14 (.len (.t 13)), B 15 (.bin .lt (.t 12) (.t 14))] [3, 4, 5, 15])
  (.cond (.t 15) .skip
  (.exit 0)))
  (.seq (.block 1 (.seq (.reg [B 18 (.mv (.t 4)), B 19 (.mv (.t 5)), B 20 (.iadr 1 (.t 18) (.t 19)), B 21 (.load false 1 (.t 20)), B 6 (.asg (.t 21))] [3, 4, 5, 6])
  (.seq (.seq (.reg [B 22 (.mv (.t 6)), B 23 (.slen (.t 22)), B 24 (.bin .ne (.t 23) (.k (.c (.int .i64 9)))), B 25 (.mv (.t 24)), Bg 26 (.mv (.t 6)) 25 false, Bg 27 (.sidx (.t 26) (.k (.c (.int .i64 0)))) 25 false, Bg 28 (.bin .ne (.t 27) (.k (.c (.int .u8 111)))) 25 false, B 29 (.pick (.t 25) (.k (.c (.bool true))) (.t 28))] [3, 4, 5, 6, 29])
  (.cond (.t 29) (.exit 1)
  .skip))
  (.seq (.reg [B 7 (.asg (.k (.c (.int .i64 0)))), B 8 (.asg (.k (.c (.bool true))))] [3, 4, 5, 6, 7, 8])
  (.seq (.seq (.reg [B 9 (.asg (.k (.c (.int .i64 1))))] [3, 4, 5, 6, 7, 8, 9])
  (.block 2 (.loop (.seq (.seq (.reg [B 30 (.mv (.t 9)), B 31 (.bin .lt (.t 30) (.k (.c (.int .i64 9))))] [3, 4, 5, 6, 7, 8, 9, 31])
  (.cond (.t 31) .skip
  (.exit 2)))
  (.seq (.block 3 (.seq (.reg [B 34 (.mv (.t 8)), B 35 (.mv (.t 34)), Bg 36 (.mv (.t 6)) 35 true, Bg 37 (.mv (.t 9)) 35 true, Bg 38 (.sidx (.t 36) (.t 37)) 35 true, Bg 39 (.bin .ge (.t 38) (.k (.c (.int .u8 48)))) 35 true, B 40 (.pick (.t 35) (.t 39) (.k (.c (.bool false)))), B 41 (.mv (.t 40)), Bg 42 (.mv (.t 6)) 41 true, Bg 43 (.mv (.t 9)) 41 true, Bg 44 (.sidx (.t 42) (.t 43)) 41 true, Bg 45 (.bin .le (.t 44) (.k (.c (.int .u8 57)))) 41 true, B 46 (.pick (.t 41) (.t 45) (.k (.c (.bool false)))), B 8 (.asg (.t 46))] [3, 4, 5, 6, 7, 8, 9])
  (.reg [B 47 (.mv (.t 7)), B 48 (.bin .mul (.t 47) (.k (.c (.int .i64 10)))), B 49 (.mv (.t 6)), B 50 (.mv (.t 9)), B 51 (.sidx (.t 49) (.t 50)), B 52 (.conv .i64 (.t 51)), B 53 (.bin .add (.t 48) (.t 52)), B 54 (.bin .sub (.t 53) (.k (.c (.int .i64 48)))), B 7 (.asg (.t 54))] [3, 4, 5, 6, 7, 8, 9])))
  (.reg [B 32 (.mv (.t 9)), B 33 (.bin .add (.t 32) (.k (.c (.int .i64 1)))), B 9 (.asg (.t 33))] [3, 4, 5, 6, 7, 8, 9]))))))
  (.seq (.reg [B 55 (.mv (.t 8))] [3, 4, 5, 7, 55])
  (.cond (.t 55) (.reg [B 56 (.mv (.t 3)), B 57 (.mv (.t 7)), B 58 (.mm true (.t 56) (.t 57)), B 3 (.asg (.t 58))] [3, 4, 5])
  .skip)))))))
  (.reg [B 16 (.mv (.t 5)), B 17 (.bin .add (.t 16) (.k (.c (.int .i64 1)))), B 5 (.asg (.t 17))] [3, 4, 5]))))))
  (.seq (.reg [B 59 (.mv (.t 3)), B 2 (.asg (.t 59))] [2])
  .ret)))))
def r92 : List ARes := [.tmp 2]
theorem k92 : bChk Tryz.prog 92 Tryz.f92 1 c92 r92 = true := by kernel_rfl
theorem p92 : Tryz.prog.funcs[92]? = some Tryz.f92 := by kernel_rfl

/-- (*scrivener/scrivenerref3.Disk).Append -/
def c93 : BCode :=
  (.seq (.reg [B 6 (.asg (.k (.c (.int .i64 0))))] [0, 1, 2])
  (.seq (.reg [B 11 (.mv (.t 0)), B 12 (.mv (.t 1)), B 13 (.slR 1 1 [.str []] [(0, 1, (.t 12))]), B 14 (.call 151 [(.t 11), (.t 13)]), B 7 (.asg (.t 14))] [0, 1, 2, 7])
  (.seq (.seq (.reg [B 15 (.mv (.t 7)), B 16 (.bin .ne (.t 15) (.k (.c (.int .i64 0))))] [0, 1, 2, 7, 16])
  (.cond (.t 16) (.seq (.reg [B 17 (.mv (.t 7)), B 6 (.asg (.t 17))] [6])
  .ret)
  .skip))
  (.seq (.reg [B 19 (.mv (.t 0)), B 20 (.mv (.t 1)), B 21 (.call 152 [(.t 19), (.t 20)]), B 18 (.mv (.t 21)), B 22 (.extract 0 (.t 18)), B 23 (.extract 1 (.t 18)), B 8 (.asg (.t 22)), B 9 (.asg (.t 23))] [0, 1, 2, 8, 9])
  (.seq (.seq (.regd [Oo 24 (.mv (.t 0)), Oo 25 (.call 153 [(.t 24)]), Oo 26 (.mv (.t 2)), Oo 27 (.len (.t 26)), Oo 28 (.bin .add (.t 25) (.t 27)), Oo 29 (.mv (.t 0)), Oo 30 (.nilck (.t 29)), Oo 31 (.fadr 0 (.t 30)), Oo 32 (.load false 1 (.t 31)), Oo 33 (.bin .gt (.t 28) (.t 32)), Oo 34 (.mv (.t 33)), Og 35 (.mv (.t 9)) 34 false, Og 36 (.not (.t 35)) 34 false, Og 37 (.mv (.t 36)) 34 false, Og 38 (.mv (.t 0)) 37 true, Og 39 (.nilck (.t 38)) 37 true, Og 40 (.fadr 1 (.t 39)) 37 true, Og 41 (.load false 1 (.t 40)) 37 true, Og 42 (.len (.t 41)) 37 true, Og 43 (.bin .ge (.t 42) (.k (.c (.int .i64 4096)))) 37 true, Og 44 (.pick (.t 37) (.t 43) (.k (.c (.bool false)))) 34 false, Oo 45 (.pick (.t 34) (.k (.c (.bool true))) (.t 44))]
    (.fl 0 (.fl 2 (.fl 3 (.fl 5 (.fl 6 (.fl 7 (.fl 8 (.ch 1 [3, 8] (.fl 4 (.fl 9 (.fl 10 (.fl 11 (.fl 12 (.fl 13 (.fl 14 (.fl 15 (.fl 16 (.fl 17 (.fl 18 (.fl 19 (.fl 20 (.fl 21 .done)))))))))))))))))))))) [0, 1, 2, 8, 9, 45])
  (.cond (.t 45) (.seq (.reg [B 6 (.asg (.k (.c (.int .i64 6))))] [6])
  .ret)
  .skip))
  (.seq (.seq (.reg [B 46 (.mv (.t 9)), B 47 (.not (.t 46))] [0, 1, 2, 8, 47])
  (.cond (.t 47) (.seq (.reg [B 48 (.slE 3), B 49 (.mv (.t 0)), B 50 (.nilck (.t 49)), B 51 (.fadr 1 (.t 50)), B 52 (.load false 1 (.t 51)), B 53 (.mv (.t 8)), B 54 (.slice 3 (.t 52) none (some (.t 53)) none), B 55 (.appM 3 48 (.t 48) (.t 54)), B 10 (.asg (.t 55))] [0, 1, 2, 8, 10])
  (.seq (.reg [B 56 (.mv (.t 10)), B 57 (.mv (.t 1)), B 58 (.build [.str [], .sl 1 [] .nil, .int .i64 0] [(0, 1, (.t 57))]), B 59 (.slM 3 1 [.str [], .sl 1 [] .nil, .int .i64 0] [(0, 3, (.t 58))]), B 60 (.appM 3 48 (.t 56) (.t 59)), B 10 (.asg (.t 60))] [0, 2, 8, 10])
  (.reg [B 61 (.mv (.t 0)), B 62 (.mv (.t 10)), B 63 (.mv (.t 0)), B 64 (.nilck (.t 63)), B 65 (.fadr 1 (.t 64)), B 66 (.load false 1 (.t 65)), B 67 (.mv (.t 8)), B 68 (.slice 3 (.t 66) (some (.t 67)) none none), B 69 (.appM 3 48 (.t 62) (.t 68)), B 70 (.nilck (.t 61)), B 71 (.fadr 1 (.t 70)), Bn (.store 1 (.t 71) (.t 69))] [0, 2, 8])))
  .skip))
  (.seq (.regd [Oo 72 (.mv (.t 0)), Oo 73 (.nilck (.t 72)), Oo 74 (.fadr 1 (.t 73)), Oo 75 (.load false 1 (.t 74)), Oo 76 (.mv (.t 8)), Oo 77 (.slE 1), Oo 78 (.mv (.t 0)), Oo 79 (.nilck (.t 78)), Oo 80 (.fadr 1 (.t 79)), Oo 81 (.load false 1 (.t 80)), Oo 82 (.mv (.t 8)), Oo 83 (.iadr 3 (.t 81) (.t 82)), Oo 84 (.fadr 1 (.t 83)), Oo 85 (.load false 1 (.t 84)), Oo 86 (.app 1 1 (.t 77) (.t 85)), Oo 87 (.mv (.t 2)), Oo 88 (.app 1 1 (.t 86) (.t 87)), Oo 89 (.iadr 3 (.t 75) (.t 76)), Oo 90 (.fadr 1 (.t 89)), On (.store 1 (.t 90) (.t 88))]
    (.fl 0 (.fl 1 (.fl 2 (.fl 3 (.fl 4 (.fl 5 (.fl 6 (.fl 7 (.fl 8 (.fl 9 (.fl 10 (.fl 11 (.fl 12 (.fl 13 (.fl 15 (.ch 14 [3] (.ch 16 [3] (.fl 17 (.fl 18 (.ch 19 [] .done)))))))))))))))))))) [0])
  (.seq (.reg [B 91 (.mv (.t 0)), B 92 (.call 154 [(.t 91)]), B 6 (.asg (.t 92))] [6])
  .ret))))))))
def r93 : List ARes := [.tmp 6]
theorem k93 : bChk Tryz.prog 93 Tryz.f93 3 c93 r93 = true := by kernel_rfl
theorem p93 : Tryz.prog.funcs[93]? = some Tryz.f93 := by kernel_rfl

/-- scrivener/scrivenerref22.name -/
def c94 : BCode :=
  (.seq (.reg [B 2 (.asg (.k (.c (.str []))))] [0])
  (.seq (.reg [B 4 (.mv (.t 0)), B 5 (.conv .u64 (.t 4)), B 6 (.call 155 [(.t 5)]), B 3 (.asg (.t 6))] [3])
  (.seq (.block 0 (.loop (.seq (.seq (.reg [B 7 (.mv (.t 3)), B 8 (.slen (.t 7)), B 9 (.bin .lt (.t 8) (.k (.c (.int .i64 8))))] [3, 9])
  (.cond (.t 9) .skip
  (.exit 0)))
  (.block 1 (.reg [B 10 (.mv (.t 3)), B 11 (.bin .sadd (.k (.c (.str [48]))) (.t 10)), B 3 (.asg (.t 11))] [3])))))
  (.seq (.reg [B 12 (.mv (.t 3)), B 13 (.bin .sadd (.k (.c (.str [111]))) (.t 12)), B 2 (.asg (.t 13))] [2])
  .ret))))
def r94 : List ARes := [.tmp 2]
theorem k94 : bChk Tryz.prog 94 Tryz.f94 1 c94 r94 = true := by kernel_rfl
theorem p94 : Tryz.prog.funcs[94]? = some Tryz.f94 := by kernel_rfl

/-- (*scrivener/scrivenerref3.Disk).Rename -/
def c95 : BCode :=
  (.seq (.reg [B 6 (.asg (.k (.c (.int .i64 0))))] [0, 1, 2])
  (.seq (.reg [B 14 (.mv (.t 0)), B 15 (.mv (.t 1)), B 16 (.mv (.t 2)), B 17 (.slR 1 2 [.str [], .str []] [(0, 1, (.t 15)), (1, 1, (.t 16))]), B 18 (.call 151 [(.t 14), (.t 17)]), B 7 (.asg (.t 18))] [0, 1, 2, 7])
  (.seq (.seq (.reg [B 19 (.mv (.t 7)), B 20 (.bin .ne (.t 19) (.k (.c (.int .i64 0))))] [0, 1, 2, 7, 20])
  (.cond (.t 20) (.seq (.reg [B 21 (.mv (.t 7)), B 6 (.asg (.t 21))] [6])
  .ret)
  .skip))
  (.seq (.reg [B 23 (.mv (.t 0)), B 24 (.mv (.t 1)), B 25 (.call 152 [(.t 23), (.t 24)]), B 22 (.mv (.t 25)), B 26 (.extract 0 (.t 22)), B 27 (.extract 1 (.t 22)), B 8 (.asg (.t 26)), B 9 (.asg (.t 27))] [0, 1, 2, 8, 9])
  (.seq (.seq (.reg [B 28 (.mv (.t 9)), B 29 (.not (.t 28))] [0, 1, 2, 8, 29])
  (.cond (.t 29) (.seq (.reg [B 6 (.asg (.k (.c (.int .i64 7))))] [6])
  .ret)
  .skip))
  (.seq (.seq (.reg [B 30 (.mv (.t 1)), B 31 (.mv (.t 2)), B 32 (.bin .seq (.t 30) (.t 31))] [0, 1, 2, 8, 32])
  (.cond (.t 32) (.seq (.reg [B 33 (.mv (.t 0)), B 34 (.call 154 [(.t 33)]), B 6 (.asg (.t 34))] [6])
  .ret)
  .skip))
  (.seq (.reg [B 35 (.mv (.t 0)), B 36 (.nilck (.t 35)), B 37 (.fadr 1 (.t 36)), B 38 (.load false 1 (.t 37)), B 39 (.mv (.t 8)), B 40 (.iadr 3 (.t 38) (.t 39)), B 41 (.load true 3 (.t 40)), B 10 (.alloc [.str [], .sl 1 [] .nil, .int .i64 0]), Bn (.store 3 (.t 10) (.t 41))] [0, 1, 2, 10])
  (.seq (.reg [B 42 (.mv (.t 2)), B 43 (.fadr 0 (.t 10)), Bn (.store 1 (.t 43) (.t 42))] [0, 1, 2, 10])
  (.seq (.reg [B 44 (.mv (.t 0)), B 45 (.mv (.t 1)), B 46 (.call 156 [(.t 44), (.t 45)])] [0, 2, 10])
  (.seq (.reg [B 47 (.mv (.t 0)), B 48 (.mv (.t 2)), B 49 (.call 156 [(.t 47), (.t 48)])] [0, 2, 10])
  (.seq (.reg [B 51 (.mv (.t 0)), B 52 (.mv (.t 2)), B 53 (.call 152 [(.t 51), (.t 52)]), B 50 (.mv (.t 53)), B 54 (.extract 0 (.t 50)), B 55 (.extract 1 (.t 50)), B 11 (.asg (.t 54)), B 12 (.asg (.t 55))] [0, 10, 11])
  (.seq (.reg [B 56 (.slE 3), B 57 (.mv (.t 0)), B 58 (.nilck (.t 57)), B 59 (.fadr 1 (.t 58)), B 60 (.load false 1 (.t 59)), B 61 (.mv (.t 11)), B 62 (.slice 3 (.t 60) none (some (.t 61)) none), B 63 (.appM 3 48 (.t 56) (.t 62)), B 13 (.asg (.t 63))] [0, 10, 11, 13])
  (.seq (.reg [B 64 (.mv (.t 13)), B 65 (.load true 3 (.t 10)), B 66 (.slM 3 1 [.str [], .sl 1 [] .nil, .int .i64 0] [(0, 3, (.t 65))]), B 67 (.appM 3 48 (.t 64) (.t 66)), B 13 (.asg (.t 67))] [0, 11, 13])
  (.seq (.reg [B 68 (.mv (.t 0)), B 69 (.mv (.t 13)), B 70 (.mv (.t 0)), B 71 (.nilck (.t 70)), B 72 (.fadr 1 (.t 71)), B 73 (.load false 1 (.t 72)), B 74 (.mv (.t 11)), B 75 (.slice 3 (.t 73) (some (.t 74)) none none), B 76 (.appM 3 48 (.t 69) (.t 75)), B 77 (.nilck (.t 68)), B 78 (.fadr 1 (.t 77)), Bn (.store 1 (.t 78) (.t 76))] [0])
  (.seq (.reg [B 79 (.mv (.t 0)), B 80 (.call 154 [(.t 79)]), B 6 (.asg (.t 80))] [6])
  .ret)))))))))))))))
def r95 : List ARes := [.tmp 6]
theorem k95 : bChk Tryz.prog 95 Tryz.f95 3 c95 r95 = true := by kernel_rfl
theorem p95 : Tryz.prog.funcs[95]? = some Tryz.f95 := by kernel_rfl

/-- scrivener/octet.Uvarint -/
def c96 : BCode :=
  (.seq (.reg [B 2 (.asg (.k (.c (.sl 1 [] .nil))))] [0])
  (.seq (.reg [B 3 (.asg (.k (.c (.sl 1 [] .nil))))] [0, 3])
  (.seq (.block 0 (.loop (.seq (.seq (.reg [B 4 (.mv (.t 0)), B 5 (.bin .ge (.t 4) (.k (.c (.int .u64 128))))] [0, 3, 5])
  (.cond (.t 5) .skip
  (.exit 0)))
  (.seq (.block 1 (.reg [B 8 (.mv (.t 3)), B 9 (.mv (.t 0)), B 10 (.conv .u8 (.t 9)), B 11 (.bin .or (.t 10) (.k (.c (.int .u8 128)))), B 12 (.slR 1 1 [.int .u8 0] [(0, 1, (.t 11))]), B 13 (.app 1 1 (.t 8) (.t 12)), B 3 (.asg (.t 13))] [0, 3]))
  (.reg [B 6 (.mv (.t 0)), B 7 (.bin .shr (.t 6) (.k (.c (.int .u64 7)))), B 0 (.asg (.t 7))] [0, 3])))))
  (.seq (.reg [B 14 (.mv (.t 3)), B 15 (.mv (.t 0)), B 16 (.conv .u8 (.t 15)), B 17 (.slR 1 1 [.int .u8 0] [(0, 1, (.t 16))]), B 18 (.app 1 1 (.t 14) (.t 17)), B 2 (.asg (.t 18))] [2])
  .ret))))
def r96 : List ARes := [.tmp 2]
theorem k96 : bChk Tryz.prog 96 Tryz.f96 1 c96 r96 = true := by kernel_rfl
theorem p96 : Tryz.prog.funcs[96]? = some Tryz.f96 := by kernel_rfl

/-- scrivener/octet.Zig -/
def c97 : BCode :=
  (.seq (.reg [B 2 (.asg (.k (.c (.int .u64 0))))] [0])
  (.seq (.reg [B 3 (.mv (.t 0)), B 4 (.bin .shl (.t 3) (.k (.c (.int .u64 1)))), B 5 (.conv .u64 (.t 4)), B 6 (.mv (.t 0)), B 7 (.bin .shr (.t 6) (.k (.c (.int .u64 63)))), B 8 (.conv .u64 (.t 7)), B 9 (.bin .xor (.t 5) (.t 8)), B 2 (.asg (.t 9))] [2])
  .ret))
def r97 : List ARes := [.tmp 2]
theorem k97 : bChk Tryz.prog 97 Tryz.f97 1 c97 r97 = true := by kernel_rfl
theorem p97 : Tryz.prog.funcs[97]? = some Tryz.f97 := by kernel_rfl

/-- scrivener/codec.Encode -/
def c98 : BCode :=
  (.seq (.reg [B 1 (.boxR (.t 0)), B 2 (.asg (.k (.c (.sl 1 [] .nil)))), B 3 (.asg (.k (.c (.int .i64 0))))] [1])
  (.seq (.seq (.reg [B 6 (.load true 6 (.t 1)), B 7 (.call 157 [(.t 6)]), B 4 (.asg (.t 7))] [1, 4])
  (.seq (.reg [B 8 (.mv (.t 4)), B 9 (.bin .ne (.t 8) (.k (.c (.int .i64 0))))] [1, 4, 9])
  (.cond (.t 9) (.seq (.reg [B 10 (.mv (.t 4)), B 2 (.asg (.k (.c (.sl 1 [] .nil)))), B 3 (.asg (.t 10))] [2, 3])
  .ret)
  .skip)))
  (.seq (.reg [B 11 (.load true 6 (.t 1)), B 12 (.call 158 [(.k (.c (.sl 1 [] .nil))), (.t 11)]), B 5 (.asg (.t 12))] [5])
  (.seq (.seq (.reg [B 13 (.mv (.t 5)), B 14 (.len (.t 13)), B 15 (.bin .gt (.t 14) (.k (.c (.int .i64 65536))))] [5, 15])
  (.cond (.t 15) (.seq (.reg [B 2 (.asg (.k (.c (.sl 1 [] .nil)))), B 3 (.asg (.k (.c (.int .i64 5))))] [2, 3])
  .ret)
  .skip))
  (.seq (.reg [B 16 (.mv (.t 5)), B 2 (.asg (.t 16)), B 3 (.asg (.k (.c (.int .i64 0))))] [2, 3])
  .ret)))))
def r98 : List ARes := [.tmp 2, .tmp 3]
theorem k98 : bChk Tryz.prog 98 Tryz.f98 1 c98 r98 = true := by kernel_rfl
theorem p98 : Tryz.prog.funcs[98]? = some Tryz.f98 := by kernel_rfl

/-- scrivener/octet.Big -/
def c99 : BCode :=
  (.seq (.reg [B 2 (.asg (.k (.c (.sl 1 [] .nil))))] [0])
  (.seq (.reg [B 3 (.mv (.t 0)), B 4 (.bin .shr (.t 3) (.k (.c (.int .u64 32)))), B 5 (.conv .u32 (.t 4)), B 6 (.call 101 [(.t 5)]), B 7 (.mv (.t 0)), B 8 (.conv .u32 (.t 7)), B 9 (.call 101 [(.t 8)]), B 10 (.app 1 1 (.t 6) (.t 9)), B 2 (.asg (.t 10))] [2])
  .ret))
def r99 : List ARes := [.tmp 2]
theorem k99 : bChk Tryz.prog 99 Tryz.f99 1 c99 r99 = true := by kernel_rfl
theorem p99 : Tryz.prog.funcs[99]? = some Tryz.f99 := by kernel_rfl

/-- scrivener/frame.headOf -/
def c100 : BCode :=
  (.seq (.reg [B 2 (.asg (.k (.c (.int .u64 0))))] [0])
  (.seq (.reg [B 3 (.mv (.t 0)), B 4 (.conv .u64 (.t 3)), B 5 (.bin .shl (.t 4) (.k (.c (.int .u64 32)))), B 6 (.mv (.t 0)), B 7 (.call 101 [(.t 6)]), B 8 (.call 102 [(.t 7)]), B 9 (.conv .u64 (.t 8)), B 10 (.bin .or (.t 5) (.t 9)), B 2 (.asg (.t 10))] [2])
  .ret))
def r100 : List ARes := [.tmp 2]
theorem k100 : bChk Tryz.prog 100 Tryz.f100 1 c100 r100 = true := by kernel_rfl
theorem p100 : Tryz.prog.funcs[100]? = some Tryz.f100 := by kernel_rfl

/-- scrivener/octet.Short -/
def c101 : BCode :=
  (.seq (.reg [B 2 (.asg (.k (.c (.sl 1 [] .nil))))] [0])
  (.seq (.reg [B 3 (.mv (.t 0)), B 4 (.bin .shr (.t 3) (.k (.c (.int .u64 24)))), B 5 (.conv .u8 (.t 4)), B 6 (.mv (.t 0)), B 7 (.bin .shr (.t 6) (.k (.c (.int .u64 16)))), B 8 (.conv .u8 (.t 7)), B 9 (.mv (.t 0)), B 10 (.bin .shr (.t 9) (.k (.c (.int .u64 8)))), B 11 (.conv .u8 (.t 10)), B 12 (.mv (.t 0)), B 13 (.conv .u8 (.t 12)), B 14 (.slR 1 4 [.int .u8 0, .int .u8 0, .int .u8 0, .int .u8 0] [(0, 1, (.t 5)), (1, 1, (.t 8)), (2, 1, (.t 11)), (3, 1, (.t 13))]), B 2 (.asg (.t 14))] [2])
  .ret))
def r101 : List ARes := [.tmp 2]
theorem k101 : bChk Tryz.prog 101 Tryz.f101 1 c101 r101 = true := by kernel_rfl
theorem p101 : Tryz.prog.funcs[101]? = some Tryz.f101 := by kernel_rfl

/-- scrivener/octet.Sum -/
def c102 : BCode :=
  (.seq (.reg [B 2 (.asg (.k (.c (.int .u32 0))))] [0])
  (.seq (.reg [B 7 (.build [.int .u32 0, .int .u32 0, .int .u32 0, .int .u32 0, .int .u32 0, .int .u32 0, .int .u32 0, .int .u32 0, .int .u32 0, .int .u32 0, .int .u32 0, .int .u32 0, .int .u32 0, .int .u32 0, .int .u32 0, .int .u32 0] [(0, 1, (.k (.c (.int .u32 0)))), (1, 1, (.k (.c (.int .u32 498536548)))), (2, 1, (.k (.c (.int .u32 997073096)))), (3, 1, (.k (.c (.int .u32 651767980)))), (4, 1, (.k (.c (.int .u32 1994146192)))), (5, 1, (.k (.c (.int .u32 1802195444)))), (6, 1, (.k (.c (.int .u32 1303535960)))), (7, 1, (.k (.c (.int .u32 1342533948)))), (8, 1, (.k (.c (.int .u32 3988292384)))), (9, 1, (.k (.c (.int .u32 4027552580)))), (10, 1, (.k (.c (.int .u32 3604390888)))), (11, 1, (.k (.c (.int .u32 3412177804)))), (12, 1, (.k (.c (.int .u32 2607071920)))), (13, 1, (.k (.c (.int .u32 2262029012)))), (14, 1, (.k (.c (.int .u32 2685067896)))), (15, 1, (.k (.c (.int .u32 3183342108))))]), B 3 (.alloc [.int .u32 0, .int .u32 0, .int .u32 0, .int .u32 0, .int .u32 0, .int .u32 0, .int .u32 0, .int .u32 0, .int .u32 0, .int .u32 0, .int .u32 0, .int .u32 0, .int .u32 0, .int .u32 0, .int .u32 0, .int .u32 0]), Bn (.store 16 (.t 3) (.t 7))] [0, 3])
  (.seq (.reg [B 4 (.asg (.k (.c (.int .u32 4294967295))))] [0, 3, 4])
  (.seq (.seq (.reg [B 8 (.mv (.t 0)), B 9 (.len (.t 8)), B 10 (.mv (.k (.c (.int .i64 0))))] [3, 4, 8, 9, 10])
  (.block 0 (.loop (.seq (.reg [B 11 (.bin .lt (.t 10) (.t 9))] [3, 4, 8, 9, 10, 11])
  (.seq (.cond (.t 11) .skip
  (.exit 0))
  (.seq (.block 1 (.seq (.reg [B 12 (.iadr 1 (.t 8) (.t 10)), B 13 (.load false 1 (.t 12)), B 6 (.asg (.t 13))] [3, 4, 6, 8, 9, 10])
  (.seq (.reg [B 14 (.mv (.t 4)), B 15 (.mv (.t 6)), B 16 (.conv .u32 (.t 15)), B 17 (.bin .xor (.t 14) (.t 16)), B 4 (.asg (.t 17))] [3, 4, 8, 9, 10])
  (.seq (.reg [B 18 (.mv (.t 4)), B 19 (.bin .shr (.t 18) (.k (.c (.int .u64 4)))), B 20 (.mv (.t 4)), B 21 (.bin .and (.t 20) (.k (.c (.int .u32 15)))), B 22 (.iarr 1 16 (.t 3) (.t 21)), B 23 (.load false 1 (.t 22)), B 24 (.bin .xor (.t 19) (.t 23)), B 4 (.asg (.t 24))] [3, 4, 8, 9, 10])
  (.reg [B 25 (.mv (.t 4)), B 26 (.bin .shr (.t 25) (.k (.c (.int .u64 4)))), B 27 (.mv (.t 4)), B 28 (.bin .and (.t 27) (.k (.c (.int .u32 15)))), B 29 (.iarr 1 16 (.t 3) (.t 28)), B 30 (.load false 1 (.t 29)), B 31 (.bin .xor (.t 26) (.t 30)), B 4 (.asg (.t 31))] [3, 4, 8, 9, 10])))))
  (.reg [B 32 (.bin .add (.t 10) (.k (.c (.int .i64 1)))), B 10 (.mv (.t 32))] [3, 4, 8, 9, 10])))))))
  (.seq (.reg [B 33 (.mv (.t 4)), B 34 (.inv (.t 33)), B 2 (.asg (.t 34))] [2])
  .ret)))))
def r102 : List ARes := [.tmp 2]
theorem k102 : bChk Tryz.prog 102 Tryz.f102 1 c102 r102 = true := by kernel_rfl
theorem p102 : Tryz.prog.funcs[102]? = some Tryz.f102 := by kernel_rfl

/-- slices.Clone[[]string,string] -/
def c103 : BCode :=
  (.seq (.reg [B 2 (.asg (.k (.c (.sl 1 [] .nil))))] [0])
  (.seq (.seq (.reg [B 3 (.mv (.t 0)), B 4 (.bin .eqnil (.t 3) (.k (.c (.sl 1 [] .nil))))] [0, 4])
  (.cond (.t 4) (.seq (.reg [B 2 (.asg (.k (.c (.sl 1 [] .nil))))] [2])
  .ret)
  .skip))
  (.seq (.reg [B 5 (.slE 1), B 6 (.mv (.t 0)), B 7 (.app 1 16 (.t 5) (.t 6)), B 2 (.asg (.t 7))] [2])
  .ret)))
def r103 : List ARes := [.tmp 2]
theorem k103 : bChk Tryz.prog 103 Tryz.f103 1 c103 r103 = true := by kernel_rfl
theorem p103 : Tryz.prog.funcs[103]? = some Tryz.f103 := by kernel_rfl

/-- scrivener/scrivenerref5.Check -/
def c104 : BCode :=
  (.seq (.reg [B 1 (.boxR (.t 0)), B 2 (.asg (.k (.c (.int .i64 0))))] [1])
  (.seq (.reg [B 3 (.load true 6 (.t 1)), B 4 (.call 159 [(.t 3), (.k (.c (.int .i64 1)))]), B 2 (.asg (.t 4))] [2])
  .ret))
def r104 : List ARes := [.tmp 2]
theorem k104 : bChk Tryz.prog 104 Tryz.f104 1 c104 r104 = true := by kernel_rfl
theorem p104 : Tryz.prog.funcs[104]? = some Tryz.f104 := by kernel_rfl

/-- scrivener/scrivenerref7.parts -/
def c105 : BCode :=
  (.seq (.reg [B 2 (.boxR (.t 0)), B 4 (.asg (.k (.c (.bool false))))] [1, 2])
  (.seq (.regd [Oo 6 (.mv (.t 1)), Oo 7 (.mv (.t 1)), Oo 8 (.nilck (.t 7)), Oo 9 (.load false 1 (.t 8)), Oo 10 (.bin .add (.t 9) (.k (.c (.int .i64 1)))), Oo 11 (.fadr 3 (.t 2)), Oo 12 (.load false 1 (.t 11)), Oo 13 (.slen (.t 12)), Oo 14 (.bin .add (.t 10) (.t 13)), Oo 15 (.nilck (.t 6)), On (.store 1 (.t 15) (.t 14))]
    (.fl 0 (.fl 1 (.fl 2 (.fl 3 (.fl 4 (.fl 5 (.fl 6 (.fl 7 (.fl 8 (.fl 9 (.ch 10 [] .done))))))))))) [1, 2])
  (.seq (.seq (.reg [B 5 (.asg (.k (.c (.int .i64 0))))] [1, 2, 5])
  (.block 0 (.loop (.seq (.seq (.reg [B 16 (.mv (.t 5)), B 17 (.fadr 5 (.t 2)), B 18 (.load false 1 (.t 17)), B 19 (.len (.t 18)), B 20 (.bin .lt (.t 16) (.t 19)), B 21 (.mv (.t 20)), Bg 22 (.mv (.t 1)) 21 true, Bg 23 (.nilck (.t 22)) 21 true, Bg 24 (.load false 1 (.t 23)) 21 true, Bg 25 (.bin .le (.t 24) (.k (.c (.int .i64 65536)))) 21 true, B 26 (.pick (.t 21) (.t 25) (.k (.c (.bool false))))] [1, 2, 5, 26])
  (.cond (.t 26) .skip
  (.exit 0)))
  (.seq (.block 1 (.reg [B 29 (.fadr 5 (.t 2)), B 30 (.load false 1 (.t 29)), B 31 (.mv (.t 5)), B 32 (.iadr 6 (.t 30) (.t 31)), B 33 (.load true 6 (.t 32)), B 34 (.mv (.t 1)), B 35 (.call 105 [(.t 33), (.t 34)])] [1, 2, 5]))
  (.reg [B 27 (.mv (.t 5)), B 28 (.bin .add (.t 27) (.k (.c (.int .i64 1)))), B 5 (.asg (.t 28))] [1, 2, 5]))))))
  (.seq (.reg [B 36 (.mv (.t 1)), B 37 (.nilck (.t 36)), B 38 (.load false 1 (.t 37)), B 39 (.bin .gt (.t 38) (.k (.c (.int .i64 65536)))), B 4 (.asg (.t 39))] [4])
  .ret))))
def r105 : List ARes := [.tmp 4]
theorem k105 : bChk Tryz.prog 105 Tryz.f105 2 c105 r105 = true := by kernel_rfl
theorem p105 : Tryz.prog.funcs[105]? = some Tryz.f105 := by kernel_rfl

/-- scrivener/scrivenerref7.bytes -/
def c106 : BCode :=
  (.seq (.reg [B 3 (.boxR (.t 1)), B 4 (.asg (.k (.c (.sl 1 [] .nil))))] [0, 3])
  (.seq (.reg [B 6 (.mv (.t 0)), B 7 (.fadr 0 (.t 3)), B 8 (.load false 1 (.t 7)), B 9 (.conv .u8 (.t 8)), B 10 (.slR 1 1 [.int .u8 0] [(0, 1, (.t 9))]), B 11 (.app 1 1 (.t 6) (.t 10)), B 0 (.asg (.t 11))] [0, 3])
  (.seq (.seq (.reg [B 12 (.fadr 0 (.t 3)), B 13 (.load false 1 (.t 12))] [0, 3, 13])
  (.block 0 (.seq (.reg [B 15 (.bin .eq (.t 13) (.k (.c (.int .i64 2)))), B 14 (.asg (.t 15))] [0, 3, 13, 14])
  (.cond (.t 14) (.reg [B 16 (.mv (.t 0)), B 17 (.fadr 1 (.t 3)), B 18 (.load false 1 (.t 17)), B 19 (.conv .u8 (.t 18)), B 20 (.slR 1 1 [.int .u8 0] [(0, 1, (.t 19))]), B 21 (.app 1 1 (.t 16) (.t 20)), B 0 (.asg (.t 21))] [0])
  (.seq (.reg [B 23 (.bin .eq (.t 13) (.k (.c (.int .i64 3)))), B 22 (.asg (.t 23))] [0, 3, 13, 22])
  (.cond (.t 22) (.reg [B 24 (.mv (.t 0)), B 25 (.fadr 1 (.t 3)), B 26 (.load false 1 (.t 25)), B 27 (.call 59 [(.t 26)]), B 28 (.call 57 [(.t 27)]), B 29 (.app 1 1 (.t 24) (.t 28)), B 0 (.asg (.t 29))] [0])
  (.seq (.reg [B 31 (.bin .eq (.t 13) (.k (.c (.int .i64 4)))), B 30 (.asg (.t 31))] [0, 3, 13, 30])
  (.cond (.t 30) (.seq (.reg [B 32 (.mv (.t 0)), B 33 (.fadr 1 (.t 3)), B 34 (.load false 1 (.t 33)), B 35 (.call 59 [(.t 34)]), B 36 (.call 57 [(.t 35)]), B 37 (.app 1 1 (.t 32) (.t 36)), B 0 (.asg (.t 37))] [0, 3])
  (.reg [B 38 (.mv (.t 0)), B 39 (.fadr 2 (.t 3)), B 40 (.load false 1 (.t 39)), B 41 (.conv .u8 (.t 40)), B 42 (.slR 1 1 [.int .u8 0] [(0, 1, (.t 41))]), B 43 (.app 1 1 (.t 38) (.t 42)), B 0 (.asg (.t 43))] [0]))
  (.seq (.reg [B 45 (.bin .eq (.t 13) (.k (.c (.int .i64 5)))), B 44 (.asg (.t 45))] [0, 3, 13, 44])
  (.cond (.t 44) (.reg [B 46 (.mv (.t 0)), B 47 (.fadr 1 (.t 3)), B 48 (.load false 1 (.t 47)), B 49 (.conv .u64 (.t 48)), B 50 (.call 57 [(.t 49)]), B 51 (.app 1 1 (.t 46) (.t 50)), B 0 (.asg (.t 51))] [0])
  (.seq (.seq (.reg [B 53 (.bin .eq (.t 13) (.k (.c (.int .i64 6)))), B 52 (.asg (.t 53))] [0, 3, 13, 52])
  (.cond (.t 52) .skip
  (.reg [B 54 (.bin .eq (.t 13) (.k (.c (.int .i64 7)))), B 52 (.asg (.t 54))] [0, 3, 13, 52])))
  (.cond (.t 52) (.reg [B 55 (.mv (.t 0)), B 56 (.fadr 3 (.t 3)), B 57 (.load false 1 (.t 56)), B 58 (.call 160 [(.t 55), (.t 57)]), B 0 (.asg (.t 58))] [0])
  (.seq (.seq (.reg [B 60 (.bin .eq (.t 13) (.k (.c (.int .i64 8)))), B 59 (.asg (.t 60))] [0, 3, 13, 59])
  (.cond (.t 59) .skip
  (.reg [B 61 (.bin .eq (.t 13) (.k (.c (.int .i64 9)))), B 59 (.asg (.t 61))] [0, 3, 59])))
  (.cond (.t 59) (.seq (.reg [B 62 (.mv (.t 0)), B 63 (.fadr 5 (.t 3)), B 64 (.load false 1 (.t 63)), B 65 (.len (.t 64)), B 66 (.conv .u64 (.t 65)), B 67 (.call 57 [(.t 66)]), B 68 (.app 1 1 (.t 62) (.t 67)), B 0 (.asg (.t 68))] [0, 3])
  (.seq (.reg [B 5 (.asg (.k (.c (.int .i64 0))))] [0, 3, 5])
  (.block 1 (.loop (.seq (.seq (.reg [B 69 (.mv (.t 5)), B 70 (.fadr 5 (.t 3)), B 71 (.load false 1 (.t 70)), B 72 (.len (.t 71)), B 73 (.bin .lt (.t 69) (.t 72))] [0, 3, 5, 73])
  (.cond (.t 73) .skip
  (.exit 1)))
  (.seq (.block 2 (.seq (.seq (.reg [B 76 (.fadr 0 (.t 3)), B 77 (.load false 1 (.t 76)), B 78 (.bin .eq (.t 77) (.k (.c (.int .i64 9))))] [0, 3, 5, 78])
  (.cond (.t 78) (.reg [B 79 (.mv (.t 0)), B 80 (.fadr 4 (.t 3)), B 81 (.load false 1 (.t 80)), B 82 (.mv (.t 5)), B 83 (.iadr 1 (.t 81) (.t 82)), B 84 (.load false 1 (.t 83)), B 85 (.call 160 [(.t 79), (.t 84)]), B 0 (.asg (.t 85))] [0, 3, 5])
  .skip))
  (.reg [B 86 (.mv (.t 0)), B 87 (.fadr 5 (.t 3)), B 88 (.load false 1 (.t 87)), B 89 (.mv (.t 5)), B 90 (.iadr 6 (.t 88) (.t 89)), B 91 (.load true 6 (.t 90)), B 92 (.call 106 [(.t 86), (.t 91)]), B 0 (.asg (.t 92))] [0, 3, 5])))
  (.reg [B 74 (.mv (.t 5)), B 75 (.bin .add (.t 74) (.k (.c (.int .i64 1)))), B 5 (.asg (.t 75))] [0, 3, 5])))))))
  .skip))))))))))))))
  (.seq (.reg [B 93 (.mv (.t 0)), B 4 (.asg (.t 93))] [4])
  .ret))))
def r106 : List ARes := [.tmp 4]
theorem k106 : bChk Tryz.prog 106 Tryz.f106 2 c106 r106 = true := by kernel_rfl
theorem p106 : Tryz.prog.funcs[106]? = some Tryz.f106 := by kernel_rfl

/-- scrivener/frame.Decode -/
def c107 : BCode :=
  (.seq (.reg [B 2 (.asg (.k (.c (.sl 1 [] .nil)))), B 3 (.asg (.k (.c (.int .i64 0)))), B 4 (.asg (.k (.c (.int .i64 0))))] [0])
  (.seq (.reg [B 12 (.mv (.t 0)), B 13 (.call 161 [(.t 12)]), B 11 (.mv (.t 13)), B 14 (.extract 0 (.t 11)), B 15 (.extract 1 (.t 11)), B 5 (.asg (.t 14)), B 6 (.asg (.t 15))] [0, 5, 6])
  (.seq (.seq (.reg [B 16 (.mv (.t 6)), B 17 (.bin .ne (.t 16) (.k (.c (.int .i64 0))))] [0, 5, 6, 17])
  (.cond (.t 17) (.seq (.reg [B 18 (.mv (.t 6)), B 2 (.asg (.k (.c (.sl 1 [] .nil)))), B 3 (.asg (.k (.c (.int .i64 0)))), B 4 (.asg (.t 18))] [2, 3, 4])
  .ret)
  .skip))
  (.seq (.reg [B 19 (.mv (.t 5)), B 20 (.bin .shr (.t 19) (.k (.c (.int .u64 32)))), B 21 (.conv .u32 (.t 20)), B 7 (.asg (.t 21))] [0, 5, 7])
  (.seq (.block 0 (.seq (.reg [B 23 (.mv (.t 5)), B 24 (.mv (.t 7)), B 25 (.call 100 [(.t 24)]), B 26 (.bin .ne (.t 23) (.t 25)), B 22 (.asg (.t 26))] [0, 7, 22])
  (.cond (.t 22) (.seq (.reg [B 2 (.asg (.k (.c (.sl 1 [] .nil)))), B 3 (.asg (.k (.c (.int .i64 0)))), B 4 (.asg (.k (.c (.int .i64 4))))] [2, 3, 4])
  .ret)
  (.seq (.reg [B 28 (.mv (.t 7)), B 29 (.bin .gt (.t 28) (.k (.c (.int .u32 524288)))), B 27 (.asg (.t 29))] [0, 7, 27])
  (.cond (.t 27) (.seq (.reg [B 2 (.asg (.k (.c (.sl 1 [] .nil)))), B 3 (.asg (.k (.c (.int .i64 0)))), B 4 (.asg (.k (.c (.int .i64 5))))] [2, 3, 4])
  .ret)
  (.seq (.reg [B 31 (.mv (.t 0)), B 32 (.len (.t 31)), B 33 (.bin .sub (.t 32) (.k (.c (.int .i64 8)))), B 34 (.bin .sub (.t 33) (.k (.c (.int .i64 4)))), B 35 (.mv (.t 7)), B 36 (.conv .i64 (.t 35)), B 37 (.bin .lt (.t 34) (.t 36)), B 30 (.asg (.t 37))] [0, 7, 30])
  (.cond (.t 30) (.seq (.reg [B 2 (.asg (.k (.c (.sl 1 [] .nil)))), B 3 (.asg (.k (.c (.int .i64 0)))), B 4 (.asg (.k (.c (.int .i64 2))))] [2, 3, 4])
  .ret)
  .skip)))))))
  (.seq (.reg [B 38 (.mv (.t 0)), B 39 (.mv (.t 7)), B 40 (.conv .i64 (.t 39)), B 41 (.bin .add (.k (.c (.int .i64 8))) (.t 40)), B 42 (.slice 1 (.t 38) none (some (.t 41)) none), B 8 (.asg (.t 42))] [0, 8])
  (.seq (.seq (.reg [B 44 (.mv (.t 0)), B 45 (.mv (.t 8)), B 46 (.len (.t 45)), B 47 (.slice 1 (.t 44) (some (.t 46)) none none), B 48 (.call 162 [(.t 47)]), B 43 (.mv (.t 48)), B 49 (.extract 0 (.t 43)), B 50 (.extract 1 (.t 43)), B 9 (.asg (.t 49)), B 10 (.asg (.t 50))] [8, 9])
  (.seq (.reg [B 51 (.mv (.t 9)), B 52 (.mv (.t 8)), B 53 (.call 102 [(.t 52)]), B 54 (.bin .ne (.t 51) (.t 53))] [8, 54])
  (.cond (.t 54) (.seq (.reg [B 2 (.asg (.k (.c (.sl 1 [] .nil)))), B 3 (.asg (.k (.c (.int .i64 0)))), B 4 (.asg (.k (.c (.int .i64 4))))] [2, 3, 4])
  .ret)
  .skip)))
  (.seq (.reg [B 55 (.mv (.t 8)), B 56 (.slice 1 (.t 55) (some (.k (.c (.int .i64 8)))) none none), B 57 (.call 163 [(.t 56)]), B 58 (.mv (.t 8)), B 59 (.len (.t 58)), B 60 (.bin .add (.t 59) (.k (.c (.int .i64 4)))), B 2 (.asg (.t 57)), B 3 (.asg (.t 60)), B 4 (.asg (.k (.c (.int .i64 0))))] [2, 3, 4])
  .ret))))))))
def r107 : List ARes := [.tmp 2, .tmp 3, .tmp 4]
theorem k107 : bChk Tryz.prog 107 Tryz.f107 1 c107 r107 = true := by kernel_rfl
theorem p107 : Tryz.prog.funcs[107]? = some Tryz.f107 := by kernel_rfl

/-- (*scrivener/wire.reader).number -/
def c108 : BCode :=
  (.seq (.reg [B 2 (.asg (.k (.c (.int .u64 0))))] [0])
  (.seq (.seq (.reg [B 6 (.mv (.t 0)), B 7 (.nilck (.t 6)), B 8 (.fadr 1 (.t 7)), B 9 (.load false 1 (.t 8))] [0, 9])
  (.cond (.t 9) (.seq (.reg [B 2 (.asg (.k (.c (.int .u64 0))))] [2])
  .ret)
  .skip))
  (.seq (.reg [B 11 (.mv (.t 0)), B 12 (.nilck (.t 11)), B 13 (.fadr 0 (.t 12)), B 14 (.load false 1 (.t 13)), B 15 (.call 164 [(.t 14)]), B 10 (.mv (.t 15)), B 16 (.extract 0 (.t 10)), B 17 (.extract 1 (.t 10)), B 18 (.extract 2 (.t 10)), B 3 (.asg (.t 16)), B 4 (.asg (.t 17)), B 5 (.asg (.t 18))] [0, 3, 4, 5])
  (.seq (.seq (.reg [B 19 (.mv (.t 5)), B 20 (.bin .ne (.t 19) (.k (.c (.int .i64 0))))] [0, 3, 4, 20])
  (.cond (.t 20) (.seq (.reg [B 21 (.mv (.t 0)), B 22 (.nilck (.t 21)), B 23 (.fadr 1 (.t 22)), Bn (.store 1 (.t 23) (.k (.c (.bool true))))] [])
  (.seq (.reg [B 2 (.asg (.k (.c (.int .u64 0))))] [2])
  .ret))
  .skip))
  (.seq (.reg [B 24 (.mv (.t 0)), B 25 (.mv (.t 0)), B 26 (.nilck (.t 25)), B 27 (.fadr 0 (.t 26)), B 28 (.load false 1 (.t 27)), B 29 (.mv (.t 4)), B 30 (.slice 1 (.t 28) (some (.t 29)) none none), B 31 (.nilck (.t 24)), B 32 (.fadr 0 (.t 31)), Bn (.store 1 (.t 32) (.t 30))] [3])
  (.seq (.reg [B 33 (.mv (.t 3)), B 2 (.asg (.t 33))] [2])
  .ret))))))
def r108 : List ARes := [.tmp 2]
theorem k108 : bChk Tryz.prog 108 Tryz.f108 1 c108 r108 = true := by kernel_rfl
theorem p108 : Tryz.prog.funcs[108]? = some Tryz.f108 := by kernel_rfl

/-- scrivener/octet.Zag -/
def c109 : BCode :=
  (.seq (.reg [B 2 (.asg (.k (.c (.int .i64 0))))] [0])
  (.seq (.reg [B 3 (.mv (.t 0)), B 4 (.bin .shr (.t 3) (.k (.c (.int .u64 1)))), B 5 (.conv .i64 (.t 4)), B 6 (.mv (.t 0)), B 7 (.bin .and (.t 6) (.k (.c (.int .u64 1)))), B 8 (.conv .i64 (.t 7)), B 9 (.neg (.t 8)), B 10 (.bin .xor (.t 5) (.t 9)), B 2 (.asg (.t 10))] [2])
  .ret))
def r109 : List ARes := [.tmp 2]
theorem k109 : bChk Tryz.prog 109 Tryz.f109 1 c109 r109 = true := by kernel_rfl
theorem p109 : Tryz.prog.funcs[109]? = some Tryz.f109 := by kernel_rfl

/-- scrivener/codec.Decode -/
def c110 : BCode :=
  (.seq (.reg [B 2 (.alloc [.int .i64 0, .int .i64 0, .int .i64 0, .str [], .sl 1 [] .nil, .sl 6 [] .nil]), B 3 (.asg (.k (.c (.int .i64 0))))] [0, 2])
  (.seq (.reg [B 8 (.mv (.t 0)), B 9 (.call 165 [(.t 8), (.k (.c (.bool true)))]), B 7 (.mv (.t 9)), B 10 (.extract 0 (.t 7)), B 11 (.extract 1 (.t 7)), B 12 (.extract 2 (.t 7)), B 4 (.alloc [.int .i64 0, .int .i64 0, .int .i64 0, .str [], .sl 1 [] .nil, .sl 6 [] .nil]), Bn (.store 6 (.t 4) (.t 10)), B 5 (.asg (.t 11)), B 6 (.asg (.t 12))] [2, 4, 6])
  (.seq (.reg [B 13 (.load true 6 (.t 4)), B 14 (.mv (.t 6)), Bn (.store 6 (.t 2) (.t 13)), B 3 (.asg (.t 14))] [2, 3])
  .ret)))
def r110 : List ARes := [.cell 2 true 6, .tmp 3]
theorem k110 : bChk Tryz.prog 110 Tryz.f110 1 c110 r110 = true := by kernel_rfl
theorem p110 : Tryz.prog.funcs[110]? = some Tryz.f110 := by kernel_rfl

/-- (*scrivener/client.Client).stops -/
def c111 : BCode :=
  (.seq (.reg [B 4 (.asg (.k (.c (.sl 3 [] .nil))))] [0, 1])
  (.seq (.reg [B 5 (.mv (.t 0)), B 6 (.mv (.t 1)), B 7 (.call 39 [(.t 5), (.t 6)])] [])
  (.seq (.reg [B 4 (.asg (.k (.c (.sl 3 [] .nil))))] [4])
  .ret)))
def r111 : List ARes := [.tmp 4]
theorem k111 : bChk Tryz.prog 111 Tryz.f111 2 c111 r111 = true := by kernel_rfl
theorem p111 : Tryz.prog.funcs[111]? = some Tryz.f111 := by kernel_rfl

/-- scrivener/occ.First -/
def c112 : BCode :=
  (.seq (.reg [B 2 (.alloc [.int .u8 0, .int .u8 0, .int .u8 0, .int .u8 0, .int .u8 0, .int .u8 0, .int .u8 0, .int .u8 0, .int .u8 0, .int .u8 0, .int .u8 0, .int .u8 0, .int .u8 0, .int .u8 0, .int .u8 0, .int .u8 0, .int .u8 0, .int .u8 0, .int .u8 0, .int .u8 0, .int .u8 0, .int .u8 0, .int .u8 0, .int .u8 0, .int .u8 0, .int .u8 0, .int .u8 0, .int .u8 0, .int .u8 0, .int .u8 0, .int .u8 0, .int .u8 0])] [0, 2])
  (.seq (.reg [B 3 (.slR 1 3 [.int .u8 0, .int .u8 0, .int .u8 0] [(0, 1, (.k (.c (.int .u8 116)))), (1, 1, (.k (.c (.int .u8 120)))), (2, 1, (.k (.c (.int .u8 110))))]), B 4 (.bad), B 5 (.mv (.t 0)), B 6 (.mm true (.k (.c (.int .i64 0))) (.t 5)), B 7 (.conv .u64 (.t 6)), B 8 (.call 96 [(.t 7)]), B 9 (.app 1 1 (.t 4) (.t 8)), B 10 (.call 166 [(.t 9)]), Bn (.store 32 (.t 2) (.t 10))] [2])
  .ret))
def r112 : List ARes := [.cell 2 true 32]
theorem k112 : bChk Tryz.prog 112 Tryz.f112 1 c112 r112 = true := by kernel_rfl
theorem p112 : Tryz.prog.funcs[112]? = some Tryz.f112 := by kernel_rfl

/-- (*scrivener/client.Client).runs -/
def c113 : BCode :=
  (.seq (.reg [B 2 (.asg (.k (.c (.sl 3 [] .nil))))] [0])
  (.seq (.reg [B 6 (.mv (.t 0)), B 7 (.nilck (.t 6)), B 8 (.fadr 7 (.t 7)), B 9 (.load false 1 (.t 8)), B 3 (.asg (.t 9))] [0, 3])
  (.seq (.regd [Oo 10 (.mv (.t 0)), Oo 11 (.nilck (.t 10)), Oo 12 (.fadr 3 (.t 11)), Oo 13 (.load false 1 (.t 12)), Oo 14 (.mv (.t 3)), Oo 15 (.nilck (.t 14)), Oo 16 (.fadr 3 (.t 15)), Oo 17 (.load false 1 (.t 16)), Oo 18 (.slR 1 2 [.int .i64 0, .int .i64 0] [(0, 1, (.t 13)), (1, 1, (.t 17))]), Oo 4 (.asg (.t 18))]
    (.fl 0 (.fl 1 (.fl 2 (.fl 3 (.fl 4 (.fl 5 (.fl 6 (.fl 7 (.fl 8 (.ch 9 [] .done)))))))))) [0, 3, 4])
  (.seq (.seq (.regd [Oo 19 (.mv (.t 3)), Oo 20 (.nilck (.t 19)), Oo 21 (.fadr 36 (.t 20)), Oo 22 (.load false 1 (.t 21)), Oo 23 (.len (.t 22)), Oo 24 (.mv (.t 3)), Oo 25 (.nilck (.t 24)), Oo 26 (.fadr 1 (.t 25)), Oo 27 (.load false 1 (.t 26)), Oo 28 (.len (.t 27)), Oo 29 (.bin .eq (.t 23) (.t 28))]
    (.fl 0 (.fl 1 (.fl 2 (.fl 3 (.fl 4 (.fl 5 (.fl 6 (.fl 7 (.fl 8 (.fl 9 (.fl 10 .done))))))))))) [0, 3, 4, 29])
  (.cond (.t 29) (.seq (.reg [B 30 (.mv (.t 0)), B 31 (.mv (.t 4)), B 32 (.mv (.t 3)), B 33 (.nilck (.t 32)), B 34 (.fadr 4 (.t 33)), B 35 (.load true 32 (.t 34)), B 36 (.build [.int .i64 0, .int .i64 0, .sl 1 [] .nil, .str [], .sl 6 [] .nil, .int .u8 0, .int .u8 0, .int .u8 0, .int .u8 0, .int .u8 0, .int .u8 0, .int .u8 0, .int .u8 0, .int .u8 0, .int .u8 0, .int .u8 0, .int .u8 0, .int .u8 0, .int .u8 0, .int .u8 0, .int .u8 0, .int .u8 0, .int .u8 0, .int .u8 0, .int .u8 0, .int .u8 0, .int .u8 0, .int .u8 0, .int .u8 0, .int .u8 0, .int .u8 0, .int .u8 0, .int .u8 0, .int .u8 0, .int .u8 0, .int .u8 0, .int .u8 0] [(0, 1, (.k (.c (.int .i64 5)))), (2, 1, (.t 31)), (5, 32, (.t 35))]), B 37 (.mv (.t 0)), B 38 (.mkbfn 167 [(.t 37)]), B 39 (.call 68 [(.t 30), (.t 36), (.t 38)]), B 2 (.asg (.t 39))] [2])
  .ret)
  .skip))
  (.seq (.regd [Oo 40 (.mv (.t 3)), Oo 41 (.nilck (.t 40)), Oo 42 (.fadr 1 (.t 41)), Oo 43 (.load false 1 (.t 42)), Oo 44 (.mv (.t 3)), Oo 45 (.nilck (.t 44)), Oo 46 (.fadr 36 (.t 45)), Oo 47 (.load false 1 (.t 46)), Oo 48 (.len (.t 47)), Oo 49 (.iadr 2 (.t 43) (.t 48)), Oo 50 (.load true 2 (.t 49)), Oo 5 (.alloc [.str [], .sl 6 [] .nil]), On (.store 2 (.t 5) (.t 50))]
    (.fl 0 (.fl 1 (.fl 2 (.fl 3 (.fl 4 (.fl 5 (.fl 6 (.fl 7 (.fl 8 (.fl 9 (.fl 10 (.ch 11 [3, 7, 8, 9, 10] (.ch 12 [] .done))))))))))))) [0, 4, 5])
  (.seq (.reg [B 51 (.mv (.t 0)), B 52 (.mv (.t 4)), B 53 (.fadr 0 (.t 5)), B 54 (.load false 1 (.t 53)), B 55 (.fadr 1 (.t 5)), B 56 (.load false 1 (.t 55)), B 57 (.build [.int .i64 0, .int .i64 0, .sl 1 [] .nil, .str [], .sl 6 [] .nil, .int .u8 0, .int .u8 0, .int .u8 0, .int .u8 0, .int .u8 0, .int .u8 0, .int .u8 0, .int .u8 0, .int .u8 0, .int .u8 0, .int .u8 0, .int .u8 0, .int .u8 0, .int .u8 0, .int .u8 0, .int .u8 0, .int .u8 0, .int .u8 0, .int .u8 0, .int .u8 0, .int .u8 0, .int .u8 0, .int .u8 0, .int .u8 0, .int .u8 0, .int .u8 0, .int .u8 0, .int .u8 0, .int .u8 0, .int .u8 0, .int .u8 0, .int .u8 0] [(0, 1, (.k (.c (.int .i64 4)))), (2, 1, (.t 52)), (3, 1, (.t 54)), (4, 1, (.t 56))]), B 58 (.mv (.t 0)), B 59 (.mkbfn 168 [(.t 58)]), B 60 (.call 68 [(.t 51), (.t 57), (.t 59)]), B 2 (.asg (.t 60))] [2])
  .ret))))))
def r113 : List ARes := [.tmp 2]
theorem k113 : bChk Tryz.prog 113 Tryz.f113 1 c113 r113 = true := by kernel_rfl
theorem p113 : Tryz.prog.funcs[113]? = some Tryz.f113 := by kernel_rfl

/-- scrivener/scrivenerref1.ReadShort -/
def c114 : BCode :=
  (.seq (.reg [B 2 (.asg (.k (.c (.int .u32 0)))), B 3 (.asg (.k (.c (.int .i64 0))))] [0])
  (.seq (.seq (.reg [B 4 (.mv (.t 0)), B 5 (.len (.t 4)), B 6 (.bin .lt (.t 5) (.k (.c (.int .i64 4))))] [0, 6])
  (.cond (.t 6) (.seq (.reg [B 2 (.asg (.k (.c (.int .u32 0)))), B 3 (.asg (.k (.c (.int .i64 2))))] [2, 3])
  .ret)
  .skip))
  (.seq (.regd [Oo 7 (.mv (.t 0)), Oo 8 (.iadr 1 (.t 7) (.k (.c (.int .i64 0)))), Oo 9 (.load false 1 (.t 8)), Oo 10 (.conv .u32 (.t 9)), Oo 11 (.bin .shl (.t 10) (.k (.c (.int .u64 24)))), Oo 12 (.mv (.t 0)), Oo 13 (.iadr 1 (.t 12) (.k (.c (.int .i64 1)))), Oo 14 (.load false 1 (.t 13)), Oo 15 (.conv .u32 (.t 14)), Oo 16 (.bin .shl (.t 15) (.k (.c (.int .u64 16)))), Oo 17 (.bin .or (.t 11) (.t 16)), Oo 18 (.mv (.t 0)), Oo 19 (.iadr 1 (.t 18) (.k (.c (.int .i64 2)))), Oo 20 (.load false 1 (.t 19)), Oo 21 (.conv .u32 (.t 20)), Oo 22 (.bin .shl (.t 21) (.k (.c (.int .u64 8)))), Oo 23 (.bin .or (.t 17) (.t 22)), Oo 24 (.mv (.t 0)), Oo 25 (.iadr 1 (.t 24) (.k (.c (.int .i64 3)))), Oo 26 (.load false 1 (.t 25)), Oo 27 (.conv .u32 (.t 26)), Oo 28 (.bin .or (.t 23) (.t 27)), Oo 2 (.asg (.t 28)), Oo 3 (.asg (.k (.c (.int .i64 0))))]
    (.fl 0 (.fl 1 (.fl 2 (.fl 3 (.fl 4 (.fl 5 (.fl 6 (.fl 7 (.fl 8 (.fl 9 (.fl 10 (.fl 11 (.fl 12 (.fl 13 (.fl 14 (.fl 15 (.fl 16 (.fl 17 (.fl 18 (.fl 19 (.fl 20 (.fl 21 (.ch 22 [] (.ch 23 [] .done)))))))))))))))))))))))) [2, 3])
  .ret)))
def r114 : List ARes := [.tmp 2, .tmp 3]
theorem k114 : bChk Tryz.prog 114 Tryz.f114 1 c114 r114 = true := by kernel_rfl
theorem p114 : Tryz.prog.funcs[114]? = some Tryz.f114 := by kernel_rfl

/-- scrivener/scrivenerref1.ReadUvarint -/
def c115 : BCode :=
  (.seq (.reg [B 2 (.asg (.k (.c (.int .u64 0)))), B 3 (.asg (.k (.c (.int .i64 0)))), B 4 (.asg (.k (.c (.int .i64 0))))] [0])
  (.seq (.reg [B 5 (.asg (.k (.c (.int .u64 0))))] [0, 5])
  (.seq (.seq (.reg [B 6 (.asg (.k (.c (.int .i64 0))))] [0, 5, 6])
  (.block 0 (.loop (.seq (.seq (.reg [B 7 (.mv (.t 6)), B 8 (.bin .lt (.t 7) (.k (.c (.int .i64 10))))] [0, 5, 6, 8])
  (.cond (.t 8) .skip
  (.exit 0)))
  (.seq (.block 1 (.seq (.seq (.reg [B 11 (.mv (.t 6)), B 12 (.mv (.t 0)), B 13 (.len (.t 12)), B 14 (.bin .eq (.t 11) (.t 13))] [0, 5, 6, 14])
  (.cond (.t 14) (.seq (.reg [B 2 (.asg (.k (.c (.int .u64 0)))), B 3 (.asg (.k (.c (.int .i64 0)))), B 4 (.asg (.k (.c (.int .i64 2))))] [2, 3, 4])
  .ret)
  .skip))
  (.seq (.reg [B 15 (.mv (.t 5)), B 16 (.mv (.t 0)), B 17 (.mv (.t 6)), B 18 (.iadr 1 (.t 16) (.t 17)), B 19 (.load false 1 (.t 18)), B 20 (.bin .and (.t 19) (.k (.c (.int .u8 127)))), B 21 (.conv .u64 (.t 20)), B 22 (.mv (.t 6)), B 23 (.bin .mul (.k (.c (.int .i64 7))) (.t 22)), B 24 (.conv .u64 (.t 23)), B 25 (.bin .shl (.t 21) (.t 24)), B 26 (.bin .or (.t 15) (.t 25)), B 5 (.asg (.t 26))] [0, 5, 6])
  (.seq (.seq (.reg [B 27 (.mv (.t 0)), B 28 (.mv (.t 6)), B 29 (.iadr 1 (.t 27) (.t 28)), B 30 (.load false 1 (.t 29)), B 31 (.bin .gt (.t 30) (.k (.c (.int .u8 127))))] [0, 5, 6, 31])
  (.cond (.t 31) (.exit 1)
  .skip))
  (.seq (.seq (.reg [B 32 (.mv (.t 6)), B 33 (.bin .eq (.t 32) (.k (.c (.int .i64 9)))), B 34 (.mv (.t 33)), Bg 35 (.mv (.t 0)) 34 true, Bg 36 (.mv (.t 6)) 34 true, Bg 37 (.iadr 1 (.t 35) (.t 36)) 34 true, Bg 38 (.load false 1 (.t 37)) 34 true, Bg 39 (.bin .gt (.t 38) (.k (.c (.int .u8 1)))) 34 true, B 40 (.pick (.t 34) (.t 39) (.k (.c (.bool false)))), B 41 (.mv (.t 40)), Bg 42 (.mv (.t 6)) 41 false, Bg 43 (.bin .gt (.t 42) (.k (.c (.int .i64 0)))) 41 false, Bg 44 (.mv (.t 43)) 41 false, Bg 45 (.mv (.t 0)) 44 true, Bg 46 (.mv (.t 6)) 44 true, Bg 47 (.iadr 1 (.t 45) (.t 46)) 44 true, Bg 48 (.load false 1 (.t 47)) 44 true, Bg 49 (.bin .eq (.t 48) (.k (.c (.int .u8 0)))) 44 true, Bg 50 (.pick (.t 44) (.t 49) (.k (.c (.bool false)))) 41 false, B 51 (.pick (.t 41) (.k (.c (.bool true))) (.t 50))] [5, 6, 51])
  (.cond (.t 51) (.seq (.reg [B 2 (.asg (.k (.c (.int .u64 0)))), B 3 (.asg (.k (.c (.int .i64 0)))), B 4 (.asg (.k (.c (.int .i64 3))))] [2, 3, 4])
  .ret)
  .skip))
  (.seq (.reg [B 52 (.mv (.t 5)), B 53 (.mv (.t 6)), B 54 (.bin .add (.t 53) (.k (.c (.int .i64 1)))), B 2 (.asg (.t 52)), B 3 (.asg (.t 54)), B 4 (.asg (.k (.c (.int .i64 0))))] [2, 3, 4])
  .ret))))))
  (.reg [B 9 (.mv (.t 6)), B 10 (.bin .add (.t 9) (.k (.c (.int .i64 1)))), B 6 (.asg (.t 10))] [0, 5, 6]))))))
  (.seq (.reg [B 2 (.asg (.k (.c (.int .u64 0)))), B 3 (.asg (.k (.c (.int .i64 0)))), B 4 (.asg (.k (.c (.int .i64 3))))] [2, 3, 4])
  .ret))))
def r115 : List ARes := [.tmp 2, .tmp 3, .tmp 4]
theorem k115 : bChk Tryz.prog 115 Tryz.f115 1 c115 r115 = true := by kernel_rfl
theorem p115 : Tryz.prog.funcs[115]? = some Tryz.f115 := by kernel_rfl

/-- (*scrivener/scrivenerref7.reader).value -/
def c116 : BCode :=
  (.seq (.reg [B 4 (.alloc [.int .i64 0, .int .i64 0, .int .i64 0, .str [], .sl 1 [] .nil, .sl 6 [] .nil])] [0, 1, 4])
  (.seq (.seq (.reg [B 9 (.mv (.t 0)), B 10 (.nilck (.t 9)), B 11 (.fadr 1 (.t 10)), B 12 (.load false 1 (.t 11)), B 13 (.bin .ne (.t 12) (.k (.c (.int .i64 0))))] [0, 1, 4, 13])
  (.cond (.t 13) (.seq (.reg [B 14 (.build [.int .i64 0, .int .i64 0, .int .i64 0, .str [], .sl 1 [] .nil, .sl 6 [] .nil] []), Bn (.store 6 (.t 4) (.t 14))] [4])
  .ret)
  .skip))
  (.seq (.seq (.reg [B 15 (.mv (.t 1)), B 16 (.bin .gt (.t 15) (.k (.c (.int .i64 16))))] [0, 1, 4, 16])
  (.cond (.t 16) (.seq (.reg [B 17 (.mv (.t 0)), B 18 (.nilck (.t 17)), B 19 (.fadr 1 (.t 18)), Bn (.store 1 (.t 19) (.k (.c (.int .i64 9))))] [4])
  (.seq (.reg [B 20 (.build [.int .i64 0, .int .i64 0, .int .i64 0, .str [], .sl 1 [] .nil, .sl 6 [] .nil] []), Bn (.store 6 (.t 4) (.t 20))] [4])
  .ret))
  .skip))
  (.seq (.reg [B 21 (.mv (.t 0)), B 22 (.call 169 [(.t 21)]), B 23 (.conv .i64 (.t 22)), B 24 (.build [.int .i64 0, .int .i64 0, .int .i64 0, .str [], .sl 1 [] .nil, .sl 6 [] .nil] [(0, 1, (.t 23))]), B 5 (.alloc [.int .i64 0, .int .i64 0, .int .i64 0, .str [], .sl 1 [] .nil, .sl 6 [] .nil]), Bn (.store 6 (.t 5) (.t 24))] [0, 1, 4, 5])
  (.seq (.seq (.reg [B 25 (.mv (.t 0)), B 26 (.nilck (.t 25)), B 27 (.fadr 1 (.t 26)), B 28 (.load false 1 (.t 27)), B 29 (.bin .ne (.t 28) (.k (.c (.int .i64 0))))] [0, 1, 4, 5, 29])
  (.cond (.t 29) (.seq (.reg [B 30 (.build [.int .i64 0, .int .i64 0, .int .i64 0, .str [], .sl 1 [] .nil, .sl 6 [] .nil] []), Bn (.store 6 (.t 4) (.t 30))] [4])
  .ret)
  .skip))
  (.seq (.seq (.reg [B 31 (.fadr 0 (.t 5)), B 32 (.load false 1 (.t 31))] [0, 1, 4, 5, 32])
  (.block 0 (.seq (.reg [B 37 (.bin .eq (.t 32) (.k (.c (.int .i64 1)))), B 36 (.asg (.t 37))] [0, 1, 4, 5, 32, 36])
  (.cond (.t 36) .skip
  (.seq (.reg [B 39 (.bin .eq (.t 32) (.k (.c (.int .i64 2)))), B 38 (.asg (.t 39))] [0, 1, 4, 5, 32, 38])
  (.cond (.t 38) (.seq (.reg [B 40 (.mv (.t 0)), B 41 (.call 169 [(.t 40)]), B 6 (.asg (.t 41))] [0, 4, 5, 6])
  (.seq (.seq (.reg [B 42 (.mv (.t 6)), B 43 (.bin .gt (.t 42) (.k (.c (.int .u8 1))))] [0, 4, 5, 6, 43])
  (.cond (.t 43) (.reg [B 44 (.mv (.t 0)), B 45 (.nilck (.t 44)), B 46 (.fadr 1 (.t 45)), Bn (.store 1 (.t 46) (.k (.c (.int .i64 3))))] [4, 5, 6])
  .skip))
  (.reg [B 47 (.mv (.t 6)), B 48 (.conv .i64 (.t 47)), B 49 (.fadr 1 (.t 5)), Bn (.store 1 (.t 49) (.t 48))] [4, 5])))
  (.seq (.seq (.reg [B 51 (.bin .eq (.t 32) (.k (.c (.int .i64 3)))), B 50 (.asg (.t 51))] [0, 1, 4, 5, 32, 50])
  (.cond (.t 50) .skip
  (.reg [B 52 (.bin .eq (.t 32) (.k (.c (.int .i64 4)))), B 50 (.asg (.t 52))] [0, 1, 4, 5, 32, 50])))
  (.cond (.t 50) (.seq (.reg [B 53 (.mv (.t 0)), B 54 (.call 170 [(.t 53)]), B 55 (.call 73 [(.t 54)]), B 56 (.fadr 1 (.t 5)), Bn (.store 1 (.t 56) (.t 55))] [0, 4, 5])
  (.seq (.reg [B 57 (.fadr 0 (.t 5)), B 58 (.load false 1 (.t 57)), B 59 (.bin .eq (.t 58) (.k (.c (.int .i64 4))))] [0, 4, 5, 59])
  (.cond (.t 59) (.reg [B 60 (.mv (.t 0)), B 61 (.call 169 [(.t 60)]), B 62 (.conv .i64 (.t 61)), B 63 (.fadr 2 (.t 5)), Bn (.store 1 (.t 63) (.t 62))] [4, 5])
  .skip)))
  (.seq (.reg [B 65 (.bin .eq (.t 32) (.k (.c (.int .i64 5)))), B 64 (.asg (.t 65))] [0, 1, 4, 5, 32, 64])
  (.cond (.t 64) (.reg [B 66 (.mv (.t 0)), B 67 (.call 170 [(.t 66)]), B 68 (.conv .i64 (.t 67)), B 69 (.fadr 1 (.t 5)), Bn (.store 1 (.t 69) (.t 68))] [4, 5])
  (.seq (.seq (.reg [B 71 (.bin .eq (.t 32) (.k (.c (.int .i64 6)))), B 70 (.asg (.t 71))] [0, 1, 4, 5, 32, 70])
  (.cond (.t 70) .skip
  (.reg [B 72 (.bin .eq (.t 32) (.k (.c (.int .i64 7)))), B 70 (.asg (.t 72))] [0, 1, 4, 5, 32, 70])))
  (.cond (.t 70) (.reg [B 73 (.mv (.t 0)), B 74 (.call 171 [(.t 73)]), B 75 (.fadr 3 (.t 5)), Bn (.store 1 (.t 75) (.t 74))] [4, 5])
  (.seq (.seq (.reg [B 77 (.bin .eq (.t 32) (.k (.c (.int .i64 8)))), B 76 (.asg (.t 77))] [0, 1, 4, 5, 32, 76])
  (.cond (.t 76) .skip
  (.reg [B 78 (.bin .eq (.t 32) (.k (.c (.int .i64 9)))), B 76 (.asg (.t 78))] [0, 1, 4, 5, 76])))
  (.cond (.t 76) (.seq (.reg [B 79 (.mv (.t 0)), B 80 (.call 172 [(.t 79)]), B 7 (.asg (.t 80))] [0, 1, 4, 5, 7])
  (.seq (.reg [B 8 (.asg (.k (.c (.int .i64 0))))] [0, 1, 4, 5, 7, 8])
  (.block 1 (.loop (.seq (.seq (.reg [B 81 (.mv (.t 8)), B 82 (.mv (.t 7)), B 83 (.bin .lt (.t 81) (.t 82)), B 84 (.mv (.t 83)), Bg 85 (.mv (.t 0)) 84 true, Bg 86 (.nilck (.t 85)) 84 true, Bg 87 (.fadr 1 (.t 86)) 84 true, Bg 88 (.load false 1 (.t 87)) 84 true, Bg 89 (.bin .eq (.t 88) (.k (.c (.int .i64 0)))) 84 true, B 90 (.pick (.t 84) (.t 89) (.k (.c (.bool false))))] [0, 1, 4, 5, 7, 8, 90])
  (.cond (.t 90) .skip
  (.exit 1)))
  (.seq (.block 2 (.seq (.seq (.reg [B 93 (.fadr 0 (.t 5)), B 94 (.load false 1 (.t 93)), B 95 (.bin .eq (.t 94) (.k (.c (.int .i64 9))))] [0, 1, 4, 5, 7, 8, 95])
  (.cond (.t 95) (.regd [Oo 96 (.fadr 4 (.t 5)), Oo 97 (.load false 1 (.t 96)), Oo 98 (.mv (.t 0)), Oo 99 (.call 171 [(.t 98)]), Oo 100 (.slR 1 1 [.str []] [(0, 1, (.t 99))]), Oo 101 (.app 1 16 (.t 97) (.t 100)), Oo 102 (.fadr 4 (.t 5)), On (.store 1 (.t 102) (.t 101))]
    (.fl 0 (.fl 1 (.fl 2 (.ch 3 [1] (.fl 4 (.ch 5 [] (.fl 6 (.ch 7 [] .done)))))))) [0, 1, 4, 5, 7, 8])
  .skip))
  (.regd [Oo 103 (.fadr 5 (.t 5)), Oo 104 (.load false 1 (.t 103)), Oo 105 (.mv (.t 0)), Oo 106 (.mv (.t 1)), Oo 107 (.bin .add (.t 106) (.k (.c (.int .i64 1)))), Oo 108 (.call 116 [(.t 105), (.t 107)]), Oo 109 (.slR 6 1 [.int .i64 0, .int .i64 0, .int .i64 0, .str [], .sl 1 [] .nil, .sl 6 [] .nil] [(0, 6, (.t 108))]), Oo 110 (.app 6 88 (.t 104) (.t 109)), Oo 111 (.fadr 5 (.t 5)), On (.store 1 (.t 111) (.t 110))]
    (.fl 0 (.fl 1 (.fl 2 (.fl 3 (.fl 4 (.ch 5 [1] (.fl 6 (.ch 7 [] (.fl 8 (.ch 9 [] .done)))))))))) [0, 1, 4, 5, 7, 8])))
  (.reg [B 91 (.mv (.t 8)), B 92 (.bin .add (.t 91) (.k (.c (.int .i64 1)))), B 8 (.asg (.t 92))] [0, 1, 4, 5, 7, 8])))))))
  (.reg [B 33 (.mv (.t 0)), B 34 (.nilck (.t 33)), B 35 (.fadr 1 (.t 34)), Bn (.store 1 (.t 35) (.k (.c (.int .i64 3))))] [4, 5])))))))))))))))
  (.seq (.reg [B 112 (.load true 6 (.t 5)), Bn (.store 6 (.t 4) (.t 112))] [4])
  .ret)))))))
def r116 : List ARes := [.cell 4 true 6]
theorem k116 : bChk Tryz.prog 116 Tryz.f116 2 c116 r116 = true := by kernel_rfl
theorem p116 : Tryz.prog.funcs[116]? = some Tryz.f116 := by kernel_rfl

/-- scrivener/scrivenerref5.Equal -/
def c118 : BCode :=
  (.seq (.reg [B 2 (.boxR (.t 0)), B 3 (.boxR (.t 1)), B 4 (.asg (.k (.c (.bool false))))] [2, 3])
  (.seq (.seq (.reg [B 7 (.fadr 0 (.t 2)), B 8 (.load false 1 (.t 7)), B 9 (.fadr 0 (.t 3)), B 10 (.load false 1 (.t 9)), B 11 (.bin .ne (.t 8) (.t 10)), B 12 (.mv (.t 11)), Bg 13 (.fadr 1 (.t 2)) 12 false, Bg 14 (.load false 1 (.t 13)) 12 false, Bg 15 (.fadr 1 (.t 3)) 12 false, Bg 16 (.load false 1 (.t 15)) 12 false, Bg 17 (.bin .ne (.t 14) (.t 16)) 12 false, B 18 (.pick (.t 12) (.k (.c (.bool true))) (.t 17)), B 19 (.mv (.t 18)), Bg 20 (.fadr 2 (.t 2)) 19 false, Bg 21 (.load false 1 (.t 20)) 19 false, Bg 22 (.fadr 2 (.t 3)) 19 false, Bg 23 (.load false 1 (.t 22)) 19 false, Bg 24 (.bin .ne (.t 21) (.t 23)) 19 false, B 25 (.pick (.t 19) (.k (.c (.bool true))) (.t 24)), B 26 (.mv (.t 25)), Bg 27 (.fadr 3 (.t 2)) 26 false, Bg 28 (.load false 1 (.t 27)) 26 false, Bg 29 (.fadr 3 (.t 3)) 26 false, Bg 30 (.load false 1 (.t 29)) 26 false, Bg 31 (.bin .sne (.t 28) (.t 30)) 26 false, B 32 (.pick (.t 26) (.k (.c (.bool true))) (.t 31)), B 33 (.mv (.t 32)), Bg 34 (.fadr 4 (.t 2)) 33 false, Bg 35 (.load false 1 (.t 34)) 33 false, Bg 36 (.len (.t 35)) 33 false, Bg 37 (.fadr 4 (.t 3)) 33 false, Bg 38 (.load false 1 (.t 37)) 33 false, Bg 39 (.len (.t 38)) 33 false, Bg 40 (.bin .ne (.t 36) (.t 39)) 33 false, B 41 (.pick (.t 33) (.k (.c (.bool true))) (.t 40)), B 42 (.mv (.t 41)), Bg 43 (.fadr 5 (.t 2)) 42 false, Bg 44 (.load false 1 (.t 43)) 42 false, Bg 45 (.len (.t 44)) 42 false, Bg 46 (.fadr 5 (.t 3)) 42 false, Bg 47 (.load false 1 (.t 46)) 42 false, Bg 48 (.len (.t 47)) 42 false, Bg 49 (.bin .ne (.t 45) (.t 48)) 42 false, B 50 (.pick (.t 42) (.k (.c (.bool true))) (.t 49))] [2, 3, 50])
  (.cond (.t 50) (.seq (.reg [B 4 (.asg (.k (.c (.bool false))))] [4])
  .ret)
  .skip))
  (.seq (.seq (.reg [B 5 (.asg (.k (.c (.int .i64 0))))] [2, 3, 5])
  (.block 0 (.loop (.seq (.seq (.reg [B 51 (.mv (.t 5)), B 52 (.fadr 4 (.t 2)), B 53 (.load false 1 (.t 52)), B 54 (.len (.t 53)), B 55 (.bin .lt (.t 51) (.t 54))] [2, 3, 5, 55])
  (.cond (.t 55) .skip
  (.exit 0)))
  (.seq (.block 1 (.seq (.regd [Oo 58 (.fadr 4 (.t 2)), Oo 59 (.load false 1 (.t 58)), Oo 60 (.mv (.t 5)), Oo 61 (.iadr 1 (.t 59) (.t 60)), Oo 62 (.load false 1 (.t 61)), Oo 63 (.fadr 4 (.t 3)), Oo 64 (.load false 1 (.t 63)), Oo 65 (.mv (.t 5)), Oo 66 (.iadr 1 (.t 64) (.t 65)), Oo 67 (.load false 1 (.t 66)), Oo 68 (.bin .sne (.t 62) (.t 67))]
    (.fl 0 (.fl 1 (.fl 2 (.fl 3 (.fl 4 (.fl 5 (.fl 6 (.fl 7 (.fl 8 (.fl 9 (.fl 10 .done))))))))))) [2, 3, 5, 68])
  (.cond (.t 68) (.seq (.reg [B 4 (.asg (.k (.c (.bool false))))] [4])
  .ret)
  .skip)))
  (.reg [B 56 (.mv (.t 5)), B 57 (.bin .add (.t 56) (.k (.c (.int .i64 1)))), B 5 (.asg (.t 57))] [2, 3, 5]))))))
  (.seq (.seq (.reg [B 6 (.asg (.k (.c (.int .i64 0))))] [2, 3, 6])
  (.block 2 (.loop (.seq (.seq (.reg [B 69 (.mv (.t 6)), B 70 (.fadr 5 (.t 2)), B 71 (.load false 1 (.t 70)), B 72 (.len (.t 71)), B 73 (.bin .lt (.t 69) (.t 72))] [2, 3, 6, 73])
  (.cond (.t 73) .skip
  (.exit 2)))
  (.seq (.block 3 (.seq (.regd [Oo 76 (.fadr 5 (.t 2)), Oo 77 (.load false 1 (.t 76)), Oo 78 (.mv (.t 6)), Oo 79 (.iadr 6 (.t 77) (.t 78)), Oo 80 (.load true 6 (.t 79)), Oo 81 (.fadr 5 (.t 3)), Oo 82 (.load false 1 (.t 81)), Oo 83 (.mv (.t 6)), Oo 84 (.iadr 6 (.t 82) (.t 83)), Oo 85 (.load true 6 (.t 84)), Oo 86 (.call 118 [(.t 80), (.t 85)]), Oo 87 (.not (.t 86))]
    (.fl 0 (.fl 1 (.fl 2 (.fl 3 (.fl 4 (.fl 5 (.fl 6 (.fl 7 (.fl 8 (.fl 9 (.ch 10 [] (.fl 11 .done)))))))))))) [2, 3, 6, 87])
  (.cond (.t 87) (.seq (.reg [B 4 (.asg (.k (.c (.bool false))))] [4])
  .ret)
  .skip)))
  (.reg [B 74 (.mv (.t 6)), B 75 (.bin .add (.t 74) (.k (.c (.int .i64 1)))), B 6 (.asg (.t 75))] [2, 3, 6]))))))
  (.seq (.reg [B 4 (.asg (.k (.c (.bool true))))] [4])
  .ret)))))
def r118 : List ARes := [.tmp 4]
theorem k118 : bChk Tryz.prog 118 Tryz.f118 2 c118 r118 = true := by kernel_rfl
theorem p118 : Tryz.prog.funcs[118]? = some Tryz.f118 := by kernel_rfl

/-- (*scrivener/scrivenerref3.Disk).Read -/
def c141 : BCode :=
  (.seq (.reg [B 4 (.asg (.k (.c (.sl 1 [] .nil)))), B 5 (.asg (.k (.c (.int .i64 0))))] [0, 1])
  (.seq (.reg [B 9 (.mv (.t 0)), B 10 (.mv (.t 1)), B 11 (.call 152 [(.t 9), (.t 10)]), B 8 (.mv (.t 11)), B 12 (.extract 0 (.t 8)), B 13 (.extract 1 (.t 8)), B 6 (.asg (.t 12)), B 7 (.asg (.t 13))] [0, 6, 7])
  (.seq (.seq (.reg [B 14 (.mv (.t 7)), B 15 (.not (.t 14))] [0, 6, 15])
  (.cond (.t 15) (.seq (.reg [B 4 (.asg (.k (.c (.sl 1 [] .nil)))), B 5 (.asg (.k (.c (.int .i64 7))))] [4, 5])
  .ret)
  .skip))
  (.seq (.reg [B 16 (.slE 1), B 17 (.mv (.t 0)), B 18 (.nilck (.t 17)), B 19 (.fadr 1 (.t 18)), B 20 (.load false 1 (.t 19)), B 21 (.mv (.t 6)), B 22 (.iadr 3 (.t 20) (.t 21)), B 23 (.fadr 1 (.t 22)), B 24 (.load false 1 (.t 23)), B 25 (.app 1 1 (.t 16) (.t 24)), B 4 (.asg (.t 25)), B 5 (.asg (.k (.c (.int .i64 0))))] [4, 5])
  .ret))))
def r141 : List ARes := [.tmp 4, .tmp 5]
theorem k141 : bChk Tryz.prog 141 Tryz.f141 2 c141 r141 = true := by kernel_rfl
theorem p141 : Tryz.prog.funcs[141]? = some Tryz.f141 := by kernel_rfl

/-- scrivener/scrivenerref4.Scan -/
def c142 : BCode :=
  (.seq (.reg [B 2 (.asg (.k (.c (.sl 1 [] .nil)))), B 3 (.asg (.k (.c (.int .i64 0)))), B 4 (.asg (.k (.c (.int .i64 0))))] [0])
  (.seq (.reg [B 5 (.asg (.k (.c (.sl 1 [] .nil))))] [0, 5])
  (.seq (.reg [B 6 (.asg (.k (.c (.int .i64 0))))] [0, 5, 6])
  (.seq (.block 0 (.loop (.seq (.seq (.reg [B 10 (.mv (.t 6)), B 11 (.mv (.t 0)), B 12 (.len (.t 11)), B 13 (.bin .lt (.t 10) (.t 12))] [0, 5, 6, 13])
  (.cond (.t 13) .skip
  (.exit 0)))
  (.block 1 (.seq (.reg [B 15 (.mv (.t 0)), B 16 (.mv (.t 6)), B 17 (.slice 1 (.t 15) (some (.t 16)) none none), B 18 (.call 72 [(.t 17)]), B 14 (.mv (.t 18)), B 19 (.extract 0 (.t 14)), B 20 (.extract 1 (.t 14)), B 21 (.extract 2 (.t 14)), B 7 (.asg (.t 19)), B 8 (.asg (.t 20)), B 9 (.asg (.t 21))] [0, 5, 6, 7, 8, 9])
  (.seq (.seq (.reg [B 22 (.mv (.t 9)), B 23 (.bin .ne (.t 22) (.k (.c (.int .i64 0))))] [0, 5, 6, 7, 8, 9, 23])
  (.cond (.t 23) (.seq (.reg [B 24 (.mv (.t 5)), B 25 (.mv (.t 6)), B 26 (.mv (.t 9)), B 2 (.asg (.t 24)), B 3 (.asg (.t 25)), B 4 (.asg (.t 26))] [2, 3, 4])
  .ret)
  .skip))
  (.seq (.reg [B 27 (.mv (.t 5)), B 28 (.mv (.t 7)), B 29 (.slR 1 1 [.sl 1 [] .nil] [(0, 1, (.t 28))]), B 30 (.app 1 24 (.t 27) (.t 29)), B 5 (.asg (.t 30))] [0, 5, 6, 8])
  (.reg [B 31 (.mv (.t 6)), B 32 (.mv (.t 8)), B 33 (.bin .add (.t 31) (.t 32)), B 6 (.asg (.t 33))] [0, 5, 6]))))))))
  (.seq (.reg [B 34 (.mv (.t 5)), B 35 (.mv (.t 6)), B 2 (.asg (.t 34)), B 3 (.asg (.t 35)), B 4 (.asg (.k (.c (.int .i64 0))))] [2, 3, 4])
  .ret)))))
def r142 : List ARes := [.tmp 2, .tmp 3, .tmp 4]
theorem k142 : bChk Tryz.prog 142 Tryz.f142 1 c142 r142 = true := by kernel_rfl
theorem p142 : Tryz.prog.funcs[142]? = some Tryz.f142 := by kernel_rfl

/-- (*scrivener/scrivenerref3.Disk).Truncate -/
def c143 : BCode :=
  (.seq (.reg [B 6 (.asg (.k (.c (.int .i64 0))))] [0, 1, 2])
  (.seq (.reg [B 10 (.mv (.t 0)), B 11 (.mv (.t 1)), B 12 (.slR 1 1 [.str []] [(0, 1, (.t 11))]), B 13 (.call 151 [(.t 10), (.t 12)]), B 7 (.asg (.t 13))] [0, 1, 2, 7])
  (.seq (.seq (.reg [B 14 (.mv (.t 7)), B 15 (.bin .ne (.t 14) (.k (.c (.int .i64 0))))] [0, 1, 2, 7, 15])
  (.cond (.t 15) (.seq (.reg [B 16 (.mv (.t 7)), B 6 (.asg (.t 16))] [6])
  .ret)
  .skip))
  (.seq (.reg [B 18 (.mv (.t 0)), B 19 (.mv (.t 1)), B 20 (.call 152 [(.t 18), (.t 19)]), B 17 (.mv (.t 20)), B 21 (.extract 0 (.t 17)), B 22 (.extract 1 (.t 17)), B 8 (.asg (.t 21)), B 9 (.asg (.t 22))] [0, 2, 8, 9])
  (.seq (.seq (.reg [B 23 (.mv (.t 9)), B 24 (.not (.t 23))] [0, 2, 8, 24])
  (.cond (.t 24) (.seq (.reg [B 6 (.asg (.k (.c (.int .i64 7))))] [6])
  .ret)
  .skip))
  (.seq (.seq (.reg [B 25 (.mv (.t 2)), B 26 (.bin .lt (.t 25) (.k (.c (.int .i64 0)))), B 27 (.mv (.t 26)), Bg 28 (.mv (.t 2)) 27 false, Bg 29 (.mv (.t 0)) 27 false, Bg 30 (.nilck (.t 29)) 27 false, Bg 31 (.fadr 1 (.t 30)) 27 false, Bg 32 (.load false 1 (.t 31)) 27 false, Bg 33 (.mv (.t 8)) 27 false, Bg 34 (.iadr 3 (.t 32) (.t 33)) 27 false, Bg 35 (.fadr 1 (.t 34)) 27 false, Bg 36 (.load false 1 (.t 35)) 27 false, Bg 37 (.len (.t 36)) 27 false, Bg 38 (.bin .gt (.t 28) (.t 37)) 27 false, B 39 (.pick (.t 27) (.k (.c (.bool true))) (.t 38))] [0, 2, 8, 39])
  (.cond (.t 39) (.seq (.reg [B 6 (.asg (.k (.c (.int .i64 1))))] [6])
  .ret)
  .skip))
  (.seq (.regd [Oo 40 (.mv (.t 0)), Oo 41 (.nilck (.t 40)), Oo 42 (.fadr 1 (.t 41)), Oo 43 (.load false 1 (.t 42)), Oo 44 (.mv (.t 8)), Oo 45 (.slE 1), Oo 46 (.mv (.t 0)), Oo 47 (.nilck (.t 46)), Oo 48 (.fadr 1 (.t 47)), Oo 49 (.load false 1 (.t 48)), Oo 50 (.mv (.t 8)), Oo 51 (.iadr 3 (.t 49) (.t 50)), Oo 52 (.fadr 1 (.t 51)), Oo 53 (.load false 1 (.t 52)), Oo 54 (.mv (.t 2)), Oo 55 (.slice 1 (.t 53) none (some (.t 54)) none), Oo 56 (.app 1 1 (.t 45) (.t 55)), Oo 57 (.iadr 3 (.t 43) (.t 44)), Oo 58 (.fadr 1 (.t 57)), On (.store 1 (.t 58) (.t 56))]
    (.fl 0 (.fl 1 (.fl 2 (.fl 3 (.fl 4 (.fl 5 (.fl 6 (.fl 7 (.fl 8 (.fl 9 (.fl 10 (.fl 11 (.fl 12 (.fl 13 (.fl 14 (.fl 15 (.ch 16 [3] (.fl 17 (.fl 18 (.ch 19 [] .done)))))))))))))))))))) [0, 2, 8])
  (.seq (.regd [Oo 59 (.mv (.t 0)), Oo 60 (.nilck (.t 59)), Oo 61 (.fadr 1 (.t 60)), Oo 62 (.load false 1 (.t 61)), Oo 63 (.mv (.t 8)), Oo 64 (.mv (.t 0)), Oo 65 (.nilck (.t 64)), Oo 66 (.fadr 1 (.t 65)), Oo 67 (.load false 1 (.t 66)), Oo 68 (.mv (.t 8)), Oo 69 (.iadr 3 (.t 67) (.t 68)), Oo 70 (.fadr 2 (.t 69)), Oo 71 (.load false 1 (.t 70)), Oo 72 (.mv (.t 2)), Oo 73 (.mm false (.t 71) (.t 72)), Oo 74 (.iadr 3 (.t 62) (.t 63)), Oo 75 (.fadr 2 (.t 74)), On (.store 1 (.t 75) (.t 73))]
    (.fl 0 (.fl 1 (.fl 2 (.fl 3 (.fl 4 (.fl 5 (.fl 6 (.fl 7 (.fl 8 (.fl 9 (.fl 10 (.fl 11 (.fl 12 (.fl 13 (.fl 14 (.fl 15 (.fl 16 (.ch 17 [] .done)))))))))))))))))) [0])
  (.seq (.reg [B 76 (.mv (.t 0)), B 77 (.call 154 [(.t 76)]), B 6 (.asg (.t 77))] [6])
  .ret)))))))))
def r143 : List ARes := [.tmp 6]
theorem k143 : bChk Tryz.prog 143 Tryz.f143 3 c143 r143 = true := by kernel_rfl
theorem p143 : Tryz.prog.funcs[143]? = some Tryz.f143 := by kernel_rfl

/-- (*scrivener/scrivenerref3.Disk).Sync -/
def c144 : BCode :=
  (.seq (.reg [B 4 (.asg (.k (.c (.int .i64 0))))] [0, 1])
  (.seq (.reg [B 8 (.mv (.t 0)), B 9 (.mv (.t 1)), B 10 (.slR 1 1 [.str []] [(0, 1, (.t 9))]), B 11 (.call 151 [(.t 8), (.t 10)]), B 5 (.asg (.t 11))] [0, 1, 5])
  (.seq (.seq (.reg [B 12 (.mv (.t 5)), B 13 (.bin .ne (.t 12) (.k (.c (.int .i64 0))))] [0, 1, 5, 13])
  (.cond (.t 13) (.seq (.reg [B 14 (.mv (.t 5)), B 4 (.asg (.t 14))] [4])
  .ret)
  .skip))
  (.seq (.reg [B 16 (.mv (.t 0)), B 17 (.mv (.t 1)), B 18 (.call 152 [(.t 16), (.t 17)]), B 15 (.mv (.t 18)), B 19 (.extract 0 (.t 15)), B 20 (.extract 1 (.t 15)), B 6 (.asg (.t 19)), B 7 (.asg (.t 20))] [0, 6, 7])
  (.seq (.seq (.reg [B 21 (.mv (.t 7)), B 22 (.not (.t 21))] [0, 6, 22])
  (.cond (.t 22) (.seq (.reg [B 4 (.asg (.k (.c (.int .i64 7))))] [4])
  .ret)
  .skip))
  (.seq (.regd [Oo 23 (.mv (.t 0)), Oo 24 (.nilck (.t 23)), Oo 25 (.fadr 1 (.t 24)), Oo 26 (.load false 1 (.t 25)), Oo 27 (.mv (.t 6)), Oo 28 (.mv (.t 0)), Oo 29 (.nilck (.t 28)), Oo 30 (.fadr 1 (.t 29)), Oo 31 (.load false 1 (.t 30)), Oo 32 (.mv (.t 6)), Oo 33 (.iadr 3 (.t 31) (.t 32)), Oo 34 (.fadr 1 (.t 33)), Oo 35 (.load false 1 (.t 34)), Oo 36 (.len (.t 35)), Oo 37 (.iadr 3 (.t 26) (.t 27)), Oo 38 (.fadr 2 (.t 37)), On (.store 1 (.t 38) (.t 36))]
    (.fl 0 (.fl 1 (.fl 2 (.fl 3 (.fl 4 (.fl 5 (.fl 6 (.fl 7 (.fl 8 (.fl 9 (.fl 10 (.fl 11 (.fl 12 (.fl 13 (.fl 14 (.fl 15 (.ch 16 [] .done))))))))))))))))) [0])
  (.seq (.reg [B 39 (.mv (.t 0)), B 40 (.call 154 [(.t 39)]), B 4 (.asg (.t 40))] [4])
  .ret)))))))
def r144 : List ARes := [.tmp 4]
theorem k144 : bChk Tryz.prog 144 Tryz.f144 2 c144 r144 = true := by kernel_rfl
theorem p144 : Tryz.prog.funcs[144]? = some Tryz.f144 := by kernel_rfl

/-- (*scrivener/scrivenerref12.Journal).read -/
def c145 : BCode :=
  (.seq (.reg [B 4 (.asg (.k (.c (.int .i64 0))))] [0, 1])
  (.seq (.seq (.reg [B 5 (.asg (.k (.c (.int .i64 0))))] [0, 1, 5])
  (.block 0 (.loop (.seq (.seq (.reg [B 11 (.mv (.t 5)), B 12 (.mv (.t 1)), B 13 (.len (.t 12)), B 14 (.bin .lt (.t 11) (.t 13))] [0, 1, 5, 14])
  (.cond (.t 14) .skip
  (.exit 0)))
  (.seq (.block 1 (.seq (.reg [B 18 (.mv (.t 1)), B 19 (.mv (.t 5)), B 20 (.iadr 1 (.t 18) (.t 19)), B 21 (.load false 1 (.t 20)), B 22 (.call 193 [(.t 21)]), B 17 (.mv (.t 22)), B 23 (.extract 0 (.t 17)), B 24 (.extract 1 (.t 17)), B 6 (.alloc [.int .i64 0, .int .i64 0, .int .i64 0, .int .u8 0, .int .u8 0, .int .u8 0, .int .u8 0, .int .u8 0, .int .u8 0, .int .u8 0, .int .u8 0, .int .u8 0, .int .u8 0, .int .u8 0, .int .u8 0, .int .u8 0, .int .u8 0, .int .u8 0, .int .u8 0, .int .u8 0, .int .u8 0, .int .u8 0, .int .u8 0, .int .u8 0, .int .u8 0, .int .u8 0, .int .u8 0, .int .u8 0, .int .u8 0, .int .u8 0, .int .u8 0, .int .u8 0, .int .u8 0, .int .u8 0, .int .u8 0, .sl 46 [] .nil]), Bn (.store 36 (.t 6) (.t 23)), B 7 (.asg (.t 24))] [0, 1, 5, 6, 7])
  (.seq (.seq (.reg [B 25 (.mv (.t 7)), B 26 (.bin .ne (.t 25) (.k (.c (.int .i64 0))))] [0, 1, 5, 6, 7, 26])
  (.cond (.t 26) (.seq (.reg [B 27 (.mv (.t 7)), B 4 (.asg (.t 27))] [4])
  .ret)
  .skip))
  (.seq (.seq (.reg [B 28 (.fadr 0 (.t 6)), B 29 (.load false 1 (.t 28)), B 30 (.mv (.t 5)), B 31 (.bin .ne (.t 29) (.t 30))] [0, 1, 5, 6, 31])
  (.cond (.t 31) (.seq (.reg [B 4 (.asg (.k (.c (.int .i64 3))))] [4])
  .ret)
  .skip))
  (.seq (.seq (.reg [B 8 (.asg (.k (.c (.int .i64 0))))] [0, 1, 5, 6, 8])
  (.block 2 (.loop (.seq (.seq (.reg [B 32 (.mv (.t 8)), B 33 (.fadr 35 (.t 6)), B 34 (.load false 1 (.t 33)), B 35 (.len (.t 34)), B 36 (.bin .lt (.t 32) (.t 35))] [0, 1, 5, 6, 8, 36])
  (.cond (.t 36) .skip
  (.exit 2)))
  (.seq (.block 3 (.seq (.reg [B 39 (.fadr 35 (.t 6)), B 40 (.load false 1 (.t 39)), B 41 (.mv (.t 8)), B 42 (.iadr 46 (.t 40) (.t 41)), B 43 (.fadr 0 (.t 42)), B 44 (.load false 1 (.t 43)), B 45 (.bin .eq (.t 44) (.k (.c (.int .i64 2)))), B 46 (.mv (.t 45)), Bg 47 (.fadr 35 (.t 6)) 46 true, Bg 48 (.load false 1 (.t 47)) 46 true, Bg 49 (.mv (.t 8)) 46 true, Bg 50 (.iadr 46 (.t 48) (.t 49)) 46 true, Bg 51 (.fadr 43 (.t 50)) 46 true, Bg 52 (.load false 1 (.t 51)) 46 true, Bg 53 (.not (.t 52)) 46 true, B 54 (.pick (.t 46) (.t 53) (.k (.c (.bool false))))] [0, 1, 5, 6, 8, 54])
  (.cond (.t 54) (.seq (.reg [B 4 (.asg (.k (.c (.int .i64 3))))] [4])
  .ret)
  .skip)))
  (.reg [B 37 (.mv (.t 8)), B 38 (.bin .add (.t 37) (.k (.c (.int .i64 1)))), B 8 (.asg (.t 38))] [0, 1, 5, 6, 8]))))))
  (.seq (.seq (.regd [Oo 55 (.fadr 3 (.t 6)), Oo 56 (.load true 32 (.t 55)), Oo 57 (.mv (.t 0)), Oo 58 (.call 194 [(.t 57)]), Oo 59 (.aeq true (true, [.i .u8, .i .u8, .i .u8, .i .u8, .i .u8, .i .u8, .i .u8, .i .u8, .i .u8, .i .u8, .i .u8, .i .u8, .i .u8, .i .u8, .i .u8, .i .u8, .i .u8, .i .u8, .i .u8, .i .u8, .i .u8, .i .u8, .i .u8, .i .u8, .i .u8, .i .u8, .i .u8, .i .u8, .i .u8, .i .u8, .i .u8, .i .u8]) (.t 56) (.t 58))]
    (.fl 0 (.fl 1 (.fl 2 (.ch 3 [1] (.fl 4 .done))))) [0, 1, 5, 6, 59])
  (.cond (.t 59) (.seq (.reg [B 4 (.asg (.k (.c (.int .i64 18))))] [4])
  .ret)
  .skip))
  (.seq (.seq (.regd [Oo 60 (.mv (.t 5)), Oo 61 (.bin .gt (.t 60) (.k (.c (.int .i64 0)))), Oo 62 (.mv (.t 61)), Og 63 (.fadr 1 (.t 6)) 62 true, Og 64 (.load false 1 (.t 63)) 62 true, Og 65 (.mv (.t 0)) 62 true, Og 66 (.nilck (.t 65)) 62 true, Og 67 (.fadr 1 (.t 66)) 62 true, Og 68 (.load false 1 (.t 67)) 62 true, Og 69 (.mv (.t 5)) 62 true, Og 70 (.bin .sub (.t 69) (.k (.c (.int .i64 1)))) 62 true, Og 71 (.iadr 36 (.t 68) (.t 70)) 62 true, Og 72 (.fadr 1 (.t 71)) 62 true, Og 73 (.load false 1 (.t 72)) 62 true, Og 74 (.bin .lt (.t 64) (.t 73)) 62 true, Oo 75 (.pick (.t 62) (.t 74) (.k (.c (.bool false))))]
    (.fl 0 (.fl 1 (.fl 2 (.fl 3 (.fl 4 (.fl 5 (.fl 6 (.fl 7 (.fl 8 (.fl 9 (.fl 10 (.fl 11 (.fl 12 (.fl 13 (.fl 14 (.fl 15 .done)))))))))))))))) [0, 1, 5, 6, 75])
  (.cond (.t 75) (.seq (.reg [B 4 (.asg (.k (.c (.int .i64 3))))] [4])
  .ret)
  .skip))
  (.seq (.reg [B 77 (.load true 36 (.t 6)), B 78 (.call 195 [(.t 77)]), B 76 (.mv (.t 78)), B 79 (.extract 0 (.t 76)), B 80 (.extract 1 (.t 76)), B 9 (.alloc [.int .u8 0, .int .u8 0, .int .u8 0, .int .u8 0, .int .u8 0, .int .u8 0, .int .u8 0, .int .u8 0, .int .u8 0, .int .u8 0, .int .u8 0, .int .u8 0, .int .u8 0, .int .u8 0, .int .u8 0, .int .u8 0, .int .u8 0, .int .u8 0, .int .u8 0, .int .u8 0, .int .u8 0, .int .u8 0, .int .u8 0, .int .u8 0, .int .u8 0, .int .u8 0, .int .u8 0, .int .u8 0, .int .u8 0, .int .u8 0, .int .u8 0, .int .u8 0]), Bn (.store 32 (.t 9) (.t 79)), B 10 (.asg (.t 80))] [0, 1, 5, 6, 9])
  (.seq (.regd [Oo 81 (.mv (.t 0)), Oo 82 (.mv (.t 0)), Oo 83 (.nilck (.t 82)), Oo 84 (.fadr 1 (.t 83)), Oo 85 (.load false 1 (.t 84)), Oo 86 (.load true 36 (.t 6)), Oo 87 (.slR 36 1 [.int .i64 0, .int .i64 0, .int .i64 0, .int .u8 0, .int .u8 0, .int .u8 0, .int .u8 0, .int .u8 0, .int .u8 0, .int .u8 0, .int .u8 0, .int .u8 0, .int .u8 0, .int .u8 0, .int .u8 0, .int .u8 0, .int .u8 0, .int .u8 0, .int .u8 0, .int .u8 0, .int .u8 0, .int .u8 0, .int .u8 0, .int .u8 0, .int .u8 0, .int .u8 0, .int .u8 0, .int .u8 0, .int .u8 0, .int .u8 0, .int .u8 0, .int .u8 0, .int .u8 0, .int .u8 0, .int .u8 0, .sl 46 [] .nil] [(0, 36, (.t 86))]), Oo 88 (.app 36 80 (.t 85) (.t 87)), Oo 89 (.nilck (.t 81)), Oo 90 (.fadr 1 (.t 89)), On (.store 1 (.t 90) (.t 88))]
    (.fl 0 (.fl 1 (.fl 2 (.fl 3 (.fl 4 (.fl 5 (.fl 6 (.ch 7 [] (.fl 8 (.fl 9 (.ch 10 [] .done))))))))))) [0, 1, 5, 9])
  (.regd [Oo 91 (.mv (.t 0)), Oo 92 (.mv (.t 0)), Oo 93 (.nilck (.t 92)), Oo 94 (.fadr 2 (.t 93)), Oo 95 (.load false 1 (.t 94)), Oo 96 (.load true 32 (.t 9)), Oo 97 (.slR 32 1 [.int .u8 0, .int .u8 0, .int .u8 0, .int .u8 0, .int .u8 0, .int .u8 0, .int .u8 0, .int .u8 0, .int .u8 0, .int .u8 0, .int .u8 0, .int .u8 0, .int .u8 0, .int .u8 0, .int .u8 0, .int .u8 0, .int .u8 0, .int .u8 0, .int .u8 0, .int .u8 0, .int .u8 0, .int .u8 0, .int .u8 0, .int .u8 0, .int .u8 0, .int .u8 0, .int .u8 0, .int .u8 0, .int .u8 0, .int .u8 0, .int .u8 0, .int .u8 0] [(0, 32, (.t 96))]), Oo 98 (.app 32 32 (.t 95) (.t 97)), Oo 99 (.nilck (.t 91)), Oo 100 (.fadr 2 (.t 99)), On (.store 1 (.t 100) (.t 98))]
    (.fl 0 (.fl 1 (.fl 2 (.fl 3 (.fl 4 (.fl 5 (.fl 6 (.ch 7 [] (.fl 8 (.fl 9 (.ch 10 [] .done))))))))))) [0, 1, 5]))))))))))
  (.reg [B 15 (.mv (.t 5)), B 16 (.bin .add (.t 15) (.k (.c (.int .i64 1)))), B 5 (.asg (.t 16))] [0, 1, 5]))))))
  (.seq (.reg [B 4 (.asg (.k (.c (.int .i64 0))))] [4])
  .ret)))
def r145 : List ARes := [.tmp 4]
theorem k145 : bChk Tryz.prog 145 Tryz.f145 2 c145 r145 = true := by kernel_rfl
theorem p145 : Tryz.prog.funcs[145]? = some Tryz.f145 := by kernel_rfl

/-- (*scrivener/scrivenerref12.Journal).load -/
def c146 : BCode :=
  (.seq (.reg [B 2 (.asg (.k (.c (.int .i64 0))))] [0])
  (.seq (.reg [B 15 (.mv (.t 0)), B 16 (.nilck (.t 15)), B 17 (.fadr 0 (.t 16)), B 18 (.load false 1 (.t 17)), B 19 (.call 150 [(.t 18)]), B 3 (.asg (.t 19))] [0, 3])
  (.seq (.seq (.reg [B 4 (.asg (.k (.c (.int .i64 0))))] [0, 3, 4])
  (.block 0 (.loop (.seq (.seq (.reg [B 20 (.mv (.t 4)), B 21 (.mv (.t 3)), B 22 (.len (.t 21)), B 23 (.bin .lt (.t 20) (.t 22))] [0, 3, 4, 23])
  (.cond (.t 23) .skip
  (.exit 0)))
  (.seq (.block 1 (.seq (.reg [B 26 (.mv (.t 3)), B 27 (.mv (.t 4)), B 28 (.iadr 1 (.t 26) (.t 27)), B 29 (.load false 1 (.t 28)), B 30 (.call 196 [(.t 29)]), B 5 (.asg (.t 30))] [0, 3, 4, 5])
  (.seq (.regd [Oo 31 (.mv (.t 5)), Oo 32 (.mv (.t 0)), Oo 33 (.nilck (.t 32)), Oo 34 (.fadr 1 (.t 33)), Oo 35 (.load false 1 (.t 34)), Oo 36 (.len (.t 35)), Oo 37 (.bin .ge (.t 31) (.t 36)), Oo 38 (.mv (.t 37)), Og 39 (.mv (.t 3)) 38 false, Og 40 (.mv (.t 4)) 38 false, Og 41 (.iadr 1 (.t 39) (.t 40)) 38 false, Og 42 (.load false 1 (.t 41)) 38 false, Og 43 (.mv (.t 3)) 38 false, Og 44 (.mv (.t 4)) 38 false, Og 45 (.iadr 1 (.t 43) (.t 44)) 38 false, Og 46 (.load false 1 (.t 45)) 38 false, Og 47 (.slen (.t 46)) 38 false, Og 48 (.bin .sub (.t 47) (.k (.c (.int .i64 1)))) 38 false, Og 49 (.sidx (.t 42) (.t 48)) 38 false, Og 50 (.bin .eq (.t 49) (.k (.c (.int .u8 126)))) 38 false, Oo 51 (.pick (.t 38) (.k (.c (.bool true))) (.t 50))]
    (.fl 0 (.fl 1 (.fl 2 (.fl 3 (.fl 4 (.fl 5 (.fl 6 (.fl 7 (.fl 8 (.fl 9 (.fl 10 (.fl 11 (.fl 12 (.fl 13 (.fl 14 (.fl 15 (.fl 16 (.fl 17 (.fl 18 (.fl 19 (.fl 20 .done))))))))))))))))))))) [0, 3, 4, 51])
  (.cond (.t 51) (.seq (.regd [Oo 52 (.mv (.t 0)), Oo 53 (.nilck (.t 52)), Oo 54 (.fadr 0 (.t 53)), Oo 55 (.load false 1 (.t 54)), Oo 56 (.mv (.t 3)), Oo 57 (.mv (.t 4)), Oo 58 (.iadr 1 (.t 56) (.t 57)), Oo 59 (.load false 1 (.t 58)), Oo 60 (.call 197 [(.t 55), (.t 59)]), Oo 6 (.asg (.t 60))]
    (.fl 0 (.fl 1 (.fl 2 (.fl 3 (.fl 4 (.fl 5 (.fl 6 (.fl 7 (.ch 8 [] (.ch 9 [] .done)))))))))) [0, 3, 4, 6])
  (.seq (.reg [B 61 (.mv (.t 6)), B 62 (.bin .ne (.t 61) (.k (.c (.int .i64 0))))] [0, 3, 4, 6, 62])
  (.cond (.t 62) (.seq (.reg [B 63 (.mv (.t 6)), B 2 (.asg (.t 63))] [2])
  .ret)
  .skip)))
  .skip))))
  (.reg [B 24 (.mv (.t 4)), B 25 (.bin .add (.t 24) (.k (.c (.int .i64 1)))), B 4 (.asg (.t 25))] [0, 3, 4]))))))
  (.seq (.reg [B 64 (.mv (.t 0)), B 65 (.call 198 [(.t 64)]), B 7 (.asg (.t 65))] [0, 7])
  (.seq (.reg [B 8 (.asg (.k (.c (.sl 1 [] .nil))))] [0, 7, 8])
  (.seq (.reg [B 66 (.mkmap), B 9 (.asg (.t 66))] [0, 7, 8, 9])
  (.seq (.seq (.reg [B 10 (.asg (.k (.c (.int .i64 0))))] [0, 7, 8, 9, 10])
  (.block 2 (.loop (.seq (.seq (.reg [B 67 (.mv (.t 10)), B 68 (.mv (.t 0)), B 69 (.nilck (.t 68)), B 70 (.fadr 1 (.t 69)), B 71 (.load false 1 (.t 70)), B 72 (.len (.t 71)), B 73 (.bin .lt (.t 67) (.t 72))] [0, 7, 8, 9, 10, 73])
  (.cond (.t 73) .skip
  (.exit 2)))
  (.seq (.block 3 (.seq (.reg [B 77 (.mv (.t 0)), B 78 (.mv (.t 10)), B 79 (.mv (.t 7)), B 80 (.call 199 [(.t 77), (.t 78), (.t 79)]), B 76 (.mv (.t 80)), B 81 (.extract 0 (.t 76)), B 82 (.extract 1 (.t 76)), B 11 (.asg (.t 81)), B 12 (.asg (.t 82))] [0, 7, 8, 9, 10, 11, 12])
  (.seq (.seq (.reg [B 83 (.mv (.t 11)), B 84 (.bin .ne (.t 83) (.k (.c (.int .i64 0))))] [0, 7, 8, 9, 10, 11, 12, 84])
  (.cond (.t 84) (.seq (.reg [B 85 (.mv (.t 11)), B 2 (.asg (.t 85))] [2])
  .ret)
  .skip))
  (.seq (.reg [B 86 (.mv (.t 12))] [0, 7, 8, 9, 10, 86])
  (.cond (.t 86) (.seq (.reg [B 87 (.mv (.t 8)), B 88 (.mv (.t 10)), B 89 (.slR 1 1 [.int .i64 0] [(0, 1, (.t 88))]), B 90 (.app 1 8 (.t 87) (.t 89)), B 8 (.asg (.t 90))] [0, 7, 8, 9, 10])
  (.reg [B 91 (.mv (.t 9)), B 92 (.mv (.t 10)), B 93 (.mv (.t 0)), B 94 (.nilck (.t 93)), B 95 (.fadr 1 (.t 94)), B 96 (.load false 1 (.t 95)), B 97 (.mv (.t 10)), B 98 (.iadr 36 (.t 96) (.t 97)), B 99 (.load true 36 (.t 98)), Bn (.mupd (false, [.i .i64]) (.t 91) (.t 92) (.t 99))] [0, 7, 8, 9, 10]))
  .skip)))))
  (.reg [B 74 (.mv (.t 10)), B 75 (.bin .add (.t 74) (.k (.c (.int .i64 1)))), B 10 (.asg (.t 75))] [0, 7, 8, 9, 10]))))))
  (.seq (.seq (.reg [B 13 (.asg (.k (.c (.int .i64 0))))] [0, 8, 9, 13])
  (.block 4 (.loop (.seq (.seq (.reg [B 100 (.mv (.t 13)), B 101 (.mv (.t 8)), B 102 (.len (.t 101)), B 103 (.bin .lt (.t 100) (.t 102))] [0, 8, 9, 13, 103])
  (.cond (.t 103) .skip
  (.exit 4)))
  (.seq (.block 5 (.seq (.reg [B 106 (.mv (.t 0)), B 107 (.mv (.t 9)), B 108 (.mv (.t 8)), B 109 (.mv (.t 13)), B 110 (.mv (.t 13)), B 111 (.bin .add (.t 110) (.k (.c (.int .i64 1)))), B 112 (.slice 1 (.t 108) (some (.t 109)) (some (.t 111)) none), B 113 (.call 200 [(.t 106), (.t 107), (.t 112)]), B 14 (.asg (.t 113))] [0, 8, 9, 13, 14])
  (.seq (.seq (.reg [B 114 (.mv (.t 14)), B 115 (.bin .eq (.t 114) (.k (.c (.int .i64 0))))] [0, 8, 9, 13, 14, 115])
  (.cond (.t 115) (.reg [B 116 (.mv (.t 0)), B 117 (.mv (.t 9)), B 118 (.mv (.t 8)), B 119 (.mv (.t 13)), B 120 (.mv (.t 13)), B 121 (.bin .add (.t 120) (.k (.c (.int .i64 1)))), B 122 (.slice 1 (.t 118) (some (.t 119)) (some (.t 121)) none), B 123 (.call 201 [(.t 116), (.t 117), (.t 122)]), B 14 (.asg (.t 123))] [0, 8, 9, 13, 14])
  .skip))
  (.seq (.reg [B 124 (.mv (.t 14)), B 125 (.bin .ne (.t 124) (.k (.c (.int .i64 0))))] [0, 8, 9, 13, 14, 125])
  (.cond (.t 125) (.seq (.reg [B 126 (.mv (.t 14)), B 2 (.asg (.t 126))] [2])
  .ret)
  .skip)))))
  (.reg [B 104 (.mv (.t 13)), B 105 (.bin .add (.t 104) (.k (.c (.int .i64 1)))), B 13 (.asg (.t 105))] [0, 8, 9, 13]))))))
  (.seq (.reg [B 2 (.asg (.k (.c (.int .i64 0))))] [2])
  .ret)))))))))
def r146 : List ARes := [.tmp 2]
theorem k146 : bChk Tryz.prog 146 Tryz.f146 1 c146 r146 = true := by kernel_rfl
theorem p146 : Tryz.prog.funcs[146]? = some Tryz.f146 := by kernel_rfl

/-- (*scrivener/scrivenerref14.Catalog).Copy -/
def c147 : BCode :=
  (.seq (.reg [B 2 (.asg (.k (.c (.nilp))))] [0])
  (.seq (.reg [B 6 (.build [.sl 4 [] .nil] []), B 7 (.box (.t 6)), B 3 (.asg (.t 7))] [0, 3])
  (.seq (.seq (.reg [B 4 (.asg (.k (.c (.int .i64 0))))] [0, 3, 4])
  (.block 0 (.loop (.seq (.seq (.reg [B 8 (.mv (.t 4)), B 9 (.mv (.t 0)), B 10 (.nilck (.t 9)), B 11 (.fadr 0 (.t 10)), B 12 (.load false 1 (.t 11)), B 13 (.len (.t 12)), B 14 (.bin .lt (.t 8) (.t 13))] [0, 3, 4, 14])
  (.cond (.t 14) .skip
  (.exit 0)))
  (.seq (.block 1 (.seq (.reg [B 17 (.mv (.t 0)), B 18 (.nilck (.t 17)), B 19 (.fadr 0 (.t 18)), B 20 (.load false 1 (.t 19)), B 21 (.mv (.t 4)), B 22 (.iadr 4 (.t 20) (.t 21)), B 23 (.load true 4 (.t 22)), B 5 (.alloc [.int .i64 0, .str [], .bool false, .sl 1 [] .nil]), Bn (.store 4 (.t 5) (.t 23))] [0, 3, 4, 5])
  (.seq (.reg [B 24 (.slE 1), B 25 (.fadr 3 (.t 5)), B 26 (.load false 1 (.t 25)), B 27 (.app 1 16 (.t 24) (.t 26)), B 28 (.fadr 3 (.t 5)), Bn (.store 1 (.t 28) (.t 27))] [0, 3, 4, 5])
  (.regd [Oo 29 (.mv (.t 3)), Oo 30 (.mv (.t 3)), Oo 31 (.nilck (.t 30)), Oo 32 (.fadr 0 (.t 31)), Oo 33 (.load false 1 (.t 32)), Oo 34 (.load true 4 (.t 5)), Oo 35 (.slR 4 1 [.int .i64 0, .str [], .bool false, .sl 1 [] .nil] [(0, 4, (.t 34))]), Oo 36 (.app 4 56 (.t 33) (.t 35)), Oo 37 (.nilck (.t 29)), Oo 38 (.fadr 0 (.t 37)), On (.store 1 (.t 38) (.t 36))]
    (.fl 0 (.fl 1 (.fl 2 (.fl 3 (.fl 4 (.fl 5 (.fl 6 (.ch 7 [] (.fl 8 (.fl 9 (.ch 10 [] .done))))))))))) [0, 3, 4]))))
  (.reg [B 15 (.mv (.t 4)), B 16 (.bin .add (.t 15) (.k (.c (.int .i64 1)))), B 4 (.asg (.t 16))] [0, 3, 4]))))))
  (.seq (.reg [B 39 (.mv (.t 3)), B 2 (.asg (.t 39))] [2])
  .ret))))
def r147 : List ARes := [.tmp 2]
theorem k147 : bChk Tryz.prog 147 Tryz.f147 1 c147 r147 = true := by kernel_rfl
theorem p147 : Tryz.prog.funcs[147]? = some Tryz.f147 := by kernel_rfl

/-- scrivener/scrivenerref11.Check -/
def c148 : BCode :=
  (.seq (.reg [B 1 (.boxR (.t 0)), B 2 (.asg (.k (.c (.int .i64 0))))] [1])
  (.seq (.seq (.reg [B 5 (.fadr 0 (.t 1)), B 6 (.load false 1 (.t 5)), B 7 (.call 202 [(.t 6), (.k (.c (.int .i64 0))), (.k (.c (.int .i64 2147483648)))]), B 8 (.not (.t 7)), B 9 (.mv (.t 8)), Bg 10 (.fadr 1 (.t 1)) 9 false, Bg 11 (.load false 1 (.t 10)) 9 false, Bg 12 (.call 202 [(.t 11), (.k (.c (.int .i64 0))), (.k (.c (.int .i64 9007199254740992)))]) 9 false, Bg 13 (.not (.t 12)) 9 false, B 14 (.pick (.t 9) (.k (.c (.bool true))) (.t 13)), B 15 (.mv (.t 14)), Bg 16 (.fadr 2 (.t 1)) 15 false, Bg 17 (.load false 1 (.t 16)) 15 false, Bg 18 (.call 202 [(.t 17), (.k (.c (.int .i64 0))), (.k (.c (.int .i64 9007199254740992)))]) 15 false, Bg 19 (.not (.t 18)) 15 false, B 20 (.pick (.t 15) (.k (.c (.bool true))) (.t 19)), B 21 (.mv (.t 20)), Bg 22 (.fadr 35 (.t 1)) 21 false, Bg 23 (.load false 1 (.t 22)) 21 false, Bg 24 (.len (.t 23)) 21 false, Bg 25 (.call 202 [(.t 24), (.k (.c (.int .i64 1))), (.k (.c (.int .i64 200)))]) 21 false, Bg 26 (.not (.t 25)) 21 false, B 27 (.pick (.t 21) (.k (.c (.bool true))) (.t 26))] [1, 27])
  (.cond (.t 27) (.seq (.reg [B 2 (.asg (.k (.c (.int .i64 1))))] [2])
  .ret)
  .skip))
  (.seq (.seq (.reg [B 3 (.asg (.k (.c (.int .i64 0))))] [1, 3])
  (.block 0 (.loop (.seq (.seq (.reg [B 28 (.mv (.t 3)), B 29 (.fadr 35 (.t 1)), B 30 (.load false 1 (.t 29)), B 31 (.len (.t 30)), B 32 (.bin .lt (.t 28) (.t 31))] [1, 3, 32])
  (.cond (.t 32) .skip
  (.exit 0)))
  (.seq (.block 1 (.seq (.reg [B 35 (.fadr 35 (.t 1)), B 36 (.load false 1 (.t 35)), B 37 (.mv (.t 3)), B 38 (.iadr 46 (.t 36) (.t 37)), B 39 (.load true 46 (.t 38)), B 40 (.call 203 [(.t 39)]), B 4 (.asg (.t 40))] [1, 3, 4])
  (.seq (.reg [B 41 (.mv (.t 4)), B 42 (.bin .ne (.t 41) (.k (.c (.int .i64 0))))] [1, 3, 4, 42])
  (.cond (.t 42) (.seq (.reg [B 43 (.mv (.t 4)), B 2 (.asg (.t 43))] [2])
  .ret)
  .skip))))
  (.reg [B 33 (.mv (.t 3)), B 34 (.bin .add (.t 33) (.k (.c (.int .i64 1)))), B 3 (.asg (.t 34))] [1, 3]))))))
  (.seq (.seq (.reg [B 44 (.load true 36 (.t 1)), B 45 (.call 204 [(.t 44), (.k (.c (.bool true)))]), B 46 (.len (.t 45)), B 47 (.bin .gt (.t 46) (.k (.c (.int .i64 262144))))] [47])
  (.cond (.t 47) (.seq (.reg [B 2 (.asg (.k (.c (.int .i64 5))))] [2])
  .ret)
  .skip))
  (.seq (.reg [B 2 (.asg (.k (.c (.int .i64 0))))] [2])
  .ret)))))
def r148 : List ARes := [.tmp 2]
theorem k148 : bChk Tryz.prog 148 Tryz.f148 1 c148 r148 = true := by kernel_rfl
theorem p148 : Tryz.prog.funcs[148]? = some Tryz.f148 := by kernel_rfl

end Go.Proofs.YtdbaldohbjnlpaaGreat
