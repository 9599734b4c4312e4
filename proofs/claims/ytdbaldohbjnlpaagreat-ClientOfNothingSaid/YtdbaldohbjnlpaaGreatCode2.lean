/- The abstract code of the functions, printed by an own tool (gen.py), each checked against the program. -/
import Derived.Test.YtdbaldohbjnlpaaGreatProg
import Derived.Test.YtdbaldohbjnlpaaGreatAb31
import Derived.Test.YtdbaldohbjnlpaaGreatCode1
import Derived.KernelRfl
set_option maxRecDepth 100000
set_option linter.unusedVariables false
namespace Go.Proofs.YtdbaldohbjnlpaaGreat
open Go.Ab

/-- scrivener/scrivenerref12.data -/
def c254 : BCode :=
  (.seq (.reg [B 1 (.boxR (.t 0)), B 2 (.asg (.k (.c (.sl 1 [] .nil)))), B 3 (.asg (.k (.c (.bool false))))] [1])
  (.seq (.reg [B 4 (.asg (.k (.c (.sl 1 [] .nil))))] [1, 4])
  (.seq (.seq (.reg [B 5 (.asg (.k (.c (.int .i64 0))))] [1, 4, 5])
  (.block 0 (.loop (.seq (.seq (.reg [B 11 (.mv (.t 5)), B 12 (.fadr 35 (.t 1)), B 13 (.load false 1 (.t 12)), B 14 (.len (.t 13)), B 15 (.bin .lt (.t 11) (.t 14))] [1, 4, 5, 15])
  (.cond (.t 15) .skip
  (.exit 0)))
  (.seq (.block 1 (.seq (.reg [B 18 (.fadr 35 (.t 1)), B 19 (.load false 1 (.t 18)), B 20 (.mv (.t 5)), B 21 (.iadr 46 (.t 19) (.t 20)), B 22 (.load true 46 (.t 21)), B 6 (.alloc [.int .i64 0, .str [], .int .i64 0, .int .i64 0, .int .i64 0, .int .i64 0, .int .i64 0, .int .i64 0, .str [], .sl 1 [] .nil, .sl 6 [] .nil, .int .u8 0, .int .u8 0, .int .u8 0, .int .u8 0, .int .u8 0, .int .u8 0, .int .u8 0, .int .u8 0, .int .u8 0, .int .u8 0, .int .u8 0, .int .u8 0, .int .u8 0, .int .u8 0, .int .u8 0, .int .u8 0, .int .u8 0, .int .u8 0, .int .u8 0, .int .u8 0, .int .u8 0, .int .u8 0, .int .u8 0, .int .u8 0, .int .u8 0, .int .u8 0, .int .u8 0, .int .u8 0, .int .u8 0, .int .u8 0, .int .u8 0, .int .u8 0, .bool false, .int .i64 0, .int .i64 0]), Bn (.store 46 (.t 6) (.t 22))] [1, 4, 5, 6])
  (.seq (.seq (.reg [B 23 (.fadr 0 (.t 6)), B 24 (.load false 1 (.t 23)), B 25 (.bin .ne (.t 24) (.k (.c (.int .i64 2)))), B 26 (.mv (.t 25)), Bg 27 (.fadr 43 (.t 6)) 26 false, Bg 28 (.load false 1 (.t 27)) 26 false, B 29 (.pick (.t 26) (.k (.c (.bool true))) (.t 28))] [1, 4, 5, 6, 29])
  (.cond (.t 29) (.exit 1)
  .skip))
  (.seq (.reg [B 31 (.fadr 5 (.t 6)), B 32 (.load true 6 (.t 31)), B 33 (.call 58 [(.t 32)]), B 30 (.mv (.t 33)), B 34 (.extract 0 (.t 30)), B 35 (.extract 1 (.t 30)), B 7 (.asg (.t 34)), B 8 (.asg (.t 35))] [1, 4, 5, 7])
  (.seq (.reg [B 36 (.mv (.t 4)), B 37 (.mv (.t 5)), B 38 (.conv .u64 (.t 37)), B 39 (.call 57 [(.t 38)]), B 40 (.app 1 1 (.t 36) (.t 39)), B 4 (.asg (.t 40))] [1, 4, 5, 7])
  (.seq (.reg [B 41 (.mv (.t 4)), B 42 (.mv (.t 7)), B 43 (.len (.t 42)), B 44 (.conv .u64 (.t 43)), B 45 (.call 57 [(.t 44)]), B 46 (.app 1 1 (.t 41) (.t 45)), B 4 (.asg (.t 46))] [1, 4, 5, 7])
  (.reg [B 47 (.mv (.t 4)), B 48 (.mv (.t 7)), B 49 (.app 1 1 (.t 47) (.t 48)), B 4 (.asg (.t 49))] [1, 4, 5])))))))
  (.reg [B 16 (.mv (.t 5)), B 17 (.bin .add (.t 16) (.k (.c (.int .i64 1)))), B 5 (.asg (.t 17))] [1, 4, 5]))))))
  (.seq (.reg [B 51 (.mv (.t 4)), B 52 (.call 34 [(.t 51)]), B 50 (.mv (.t 52)), B 53 (.extract 0 (.t 50)), B 54 (.extract 1 (.t 50)), B 9 (.asg (.t 53)), B 10 (.asg (.t 54))] [4, 9])
  (.seq (.reg [B 55 (.mv (.t 9)), B 56 (.mv (.t 4)), B 57 (.len (.t 56)), B 58 (.bin .gt (.t 57) (.k (.c (.int .i64 0)))), B 2 (.asg (.t 55)), B 3 (.asg (.t 58))] [2, 3])
  .ret)))))
def r254 : List ARes := [.tmp 2, .tmp 3]
theorem k254 : bChk Tryz.prog 254 Tryz.f254 1 c254 r254 = true := by kernel_rfl
theorem p254 : Tryz.prog.funcs[254]? = some Tryz.f254 := by kernel_rfl

/-- (*scrivener/scrivenerref12.Journal).file -/
def c255 : BCode :=
  (.seq (.reg [B 6 (.asg (.k (.c (.int .i64 0))))] [0, 1, 2])
  (.seq (.reg [B 10 (.mv (.t 0)), B 11 (.nilck (.t 10)), B 12 (.fadr 0 (.t 11)), B 13 (.load false 1 (.t 12)), B 14 (.mv (.t 1)), B 15 (.call 141 [(.t 13), (.t 14)]), B 9 (.mv (.t 15)), B 16 (.extract 0 (.t 9)), B 17 (.extract 1 (.t 9)), B 7 (.asg (.t 16)), B 8 (.asg (.t 17))] [0, 1, 2, 8])
  (.seq (.seq (.reg [B 18 (.mv (.t 8)), B 19 (.bin .eq (.t 18) (.k (.c (.int .i64 0))))] [0, 1, 2, 19])
  (.cond (.t 19) (.seq (.reg [B 20 (.mv (.t 0)), B 21 (.nilck (.t 20)), B 22 (.fadr 0 (.t 21)), B 23 (.load false 1 (.t 22)), B 24 (.mv (.t 1)), B 25 (.call 197 [(.t 23), (.t 24)]), B 8 (.asg (.t 25))] [0, 1, 2, 8])
  (.seq (.reg [B 26 (.mv (.t 8)), B 27 (.bin .ne (.t 26) (.k (.c (.int .i64 0))))] [0, 1, 2, 8, 27])
  (.cond (.t 27) (.seq (.reg [B 28 (.mv (.t 8)), B 6 (.asg (.t 28))] [6])
  .ret)
  .skip)))
  .skip))
  (.seq (.reg [B 29 (.mv (.t 0)), B 30 (.nilck (.t 29)), B 31 (.fadr 0 (.t 30)), B 32 (.load false 1 (.t 31)), B 33 (.mv (.t 1)), B 34 (.mv (.t 2)), B 35 (.call 93 [(.t 32), (.t 33), (.t 34)]), B 8 (.asg (.t 35))] [0, 1, 8])
  (.seq (.seq (.reg [B 36 (.mv (.t 8)), B 37 (.bin .ne (.t 36) (.k (.c (.int .i64 0))))] [0, 1, 8, 37])
  (.cond (.t 37) (.seq (.reg [B 38 (.mv (.t 8)), B 6 (.asg (.t 38))] [6])
  .ret)
  .skip))
  (.seq (.reg [B 39 (.mv (.t 0)), B 40 (.nilck (.t 39)), B 41 (.fadr 0 (.t 40)), B 42 (.load false 1 (.t 41)), B 43 (.mv (.t 1)), B 44 (.call 144 [(.t 42), (.t 43)]), B 6 (.asg (.t 44))] [6])
  .ret))))))
def r255 : List ARes := [.tmp 6]
theorem k255 : bChk Tryz.prog 255 Tryz.f255 3 c255 r255 = true := by kernel_rfl
theorem p255 : Tryz.prog.funcs[255]? = some Tryz.f255 := by kernel_rfl

/-- scrivener/scrivenerref11.Form -/
def c256 : BCode :=
  (.seq (.reg [B 1 (.boxR (.t 0)), B 2 (.asg (.k (.c (.bool false))))] [1])
  (.seq (.reg [B 6 (.fadr 1 (.t 1)), B 7 (.load false 1 (.t 6)), B 8 (.slen (.t 7)), B 9 (.call 202 [(.t 8), (.k (.c (.int .i64 1))), (.k (.c (.int .i64 40)))]), B 3 (.asg (.t 9))] [1, 3])
  (.seq (.reg [B 10 (.fadr 2 (.t 1)), B 11 (.load false 1 (.t 10)), B 12 (.call 202 [(.t 11), (.k (.c (.int .i64 1))), (.k (.c (.int .i64 64)))]), B 4 (.asg (.t 12))] [1, 3, 4])
  (.seq (.reg [B 13 (.fadr 3 (.t 1)), B 14 (.load false 1 (.t 13)), B 15 (.call 202 [(.t 14), (.k (.c (.int .i64 1))), (.k (.c (.int .i64 65536)))]), B 5 (.asg (.t 15))] [1, 3, 4, 5])
  (.seq (.seq (.reg [B 16 (.fadr 0 (.t 1)), B 17 (.load false 1 (.t 16))] [1, 3, 4, 5, 17])
  (.block 0 (.seq (.reg [B 19 (.bin .eq (.t 17) (.k (.c (.int .i64 1)))), B 18 (.asg (.t 19))] [1, 3, 4, 5, 17, 18])
  (.cond (.t 18) (.seq (.reg [B 20 (.fadr 1 (.t 1)), B 21 (.load false 1 (.t 20)), B 22 (.slen (.t 21)), B 23 (.call 202 [(.t 22), (.k (.c (.int .i64 1))), (.k (.c (.int .i64 4096)))]), B 24 (.mv (.t 23)), Bg 25 (.load true 46 (.t 1)) 24 true, Bg 26 (.fadr 0 (.t 1)) 24 true, Bg 27 (.load false 1 (.t 26)) 24 true, Bg 28 (.fadr 1 (.t 1)) 24 true, Bg 29 (.load false 1 (.t 28)) 24 true, Bg 30 (.build [.int .i64 0, .str [], .int .i64 0, .int .i64 0, .int .i64 0, .int .i64 0, .int .i64 0, .int .i64 0, .str [], .sl 1 [] .nil, .sl 6 [] .nil, .int .u8 0, .int .u8 0, .int .u8 0, .int .u8 0, .int .u8 0, .int .u8 0, .int .u8 0, .int .u8 0, .int .u8 0, .int .u8 0, .int .u8 0, .int .u8 0, .int .u8 0, .int .u8 0, .int .u8 0, .int .u8 0, .int .u8 0, .int .u8 0, .int .u8 0, .int .u8 0, .int .u8 0, .int .u8 0, .int .u8 0, .int .u8 0, .int .u8 0, .int .u8 0, .int .u8 0, .int .u8 0, .int .u8 0, .int .u8 0, .int .u8 0, .int .u8 0, .bool false, .int .i64 0, .int .i64 0] [(0, 1, (.t 27)), (1, 1, (.t 29))]) 24 true, Bg 31 (.call 306 [(.t 25), (.t 30)]) 24 true, B 32 (.pick (.t 24) (.t 31) (.k (.c (.bool false)))), B 2 (.asg (.t 32))] [2])
  .ret)
  (.seq (.reg [B 34 (.bin .eq (.t 17) (.k (.c (.int .i64 2)))), B 33 (.asg (.t 34))] [1, 3, 4, 5, 17, 33])
  (.cond (.t 33) (.seq (.seq (.reg [B 35 (.fadr 43 (.t 1)), B 36 (.load false 1 (.t 35)), B 37 (.mv (.t 36)), Bg 38 (.fadr 5 (.t 1)) 37 true, Bg 39 (.load true 6 (.t 38)) 37 true, Bg 40 (.call 307 [(.t 39)]) 37 true, Bg 41 (.not (.t 40)) 37 true, B 42 (.pick (.t 37) (.t 41) (.k (.c (.bool false))))] [1, 4, 5, 42])
  (.cond (.t 42) (.seq (.reg [B 2 (.asg (.k (.c (.bool false))))] [2])
  .ret)
  .skip))
  (.seq (.regd [Oo 43 (.mv (.t 4)), Oo 44 (.mv (.t 43)), Og 45 (.mv (.t 5)) 44 true, Oo 46 (.pick (.t 44) (.t 45) (.k (.c (.bool false)))), Oo 47 (.mv (.t 46)), Og 48 (.fadr 4 (.t 1)) 47 true, Og 49 (.load false 1 (.t 48)) 47 true, Og 50 (.call 202 [(.t 49), (.k (.c (.int .i64 0))), (.k (.c (.int .i64 2147483648)))]) 47 true, Oo 51 (.pick (.t 47) (.t 50) (.k (.c (.bool false)))), Oo 52 (.mv (.t 51)), Og 53 (.load true 46 (.t 1)) 52 true, Og 54 (.call 308 [(.t 53)]) 52 true, Og 55 (.fadr 0 (.t 1)) 52 true, Og 56 (.load false 1 (.t 55)) 52 true, Og 57 (.fadr 2 (.t 1)) 52 true, Og 58 (.load false 1 (.t 57)) 52 true, Og 59 (.fadr 3 (.t 1)) 52 true, Og 60 (.load false 1 (.t 59)) 52 true, Og 61 (.fadr 4 (.t 1)) 52 true, Og 62 (.load false 1 (.t 61)) 52 true, Og 63 (.fadr 11 (.t 1)) 52 true, Og 64 (.load true 32 (.t 63)) 52 true, Og 65 (.fadr 43 (.t 1)) 52 true, Og 66 (.load false 1 (.t 65)) 52 true, Og 67 (.build [.int .i64 0, .str [], .int .i64 0, .int .i64 0, .int .i64 0, .int .i64 0, .int .i64 0, .int .i64 0, .str [], .sl 1 [] .nil, .sl 6 [] .nil, .int .u8 0, .int .u8 0, .int .u8 0, .int .u8 0, .int .u8 0, .int .u8 0, .int .u8 0, .int .u8 0, .int .u8 0, .int .u8 0, .int .u8 0, .int .u8 0, .int .u8 0, .int .u8 0, .int .u8 0, .int .u8 0, .int .u8 0, .int .u8 0, .int .u8 0, .int .u8 0, .int .u8 0, .int .u8 0, .int .u8 0, .int .u8 0, .int .u8 0, .int .u8 0, .int .u8 0, .int .u8 0, .int .u8 0, .int .u8 0, .int .u8 0, .int .u8 0, .bool false, .int .i64 0, .int .i64 0] [(0, 1, (.t 56)), (2, 1, (.t 58)), (3, 1, (.t 60)), (4, 1, (.t 62)), (11, 32, (.t 64)), (43, 1, (.t 66))]) 52 true, Og 68 (.call 306 [(.t 54), (.t 67)]) 52 true, Oo 69 (.pick (.t 52) (.t 68) (.k (.c (.bool false)))), Oo 2 (.asg (.t 69))]
    (.fl 0 (.fl 1 (.fl 2 (.fl 3 (.fl 4 (.fl 5 (.fl 6 (.ch 7 [] (.fl 8 (.fl 9 (.fl 10 (.fl 12 (.fl 13 (.fl 14 (.fl 15 (.fl 16 (.fl 17 (.fl 18 (.fl 19 (.fl 20 (.fl 21 (.fl 22 (.fl 23 (.fl 24 (.ch 11 [13, 15, 17, 19, 21, 23] (.ch 25 [] (.fl 26 (.ch 27 [] .done)))))))))))))))))))))))))))) [2])
  .ret))
  (.seq (.reg [B 71 (.bin .eq (.t 17) (.k (.c (.int .i64 3)))), B 70 (.asg (.t 71))] [1, 3, 4, 5, 17, 70])
  (.cond (.t 70) (.seq (.reg [B 72 (.mv (.t 4)), B 73 (.mv (.t 72)), Bg 74 (.mv (.t 5)) 73 true, B 75 (.pick (.t 73) (.t 74) (.k (.c (.bool false)))), B 76 (.mv (.t 75)), Bg 77 (.fadr 4 (.t 1)) 76 true, Bg 78 (.load false 1 (.t 77)) 76 true, Bg 79 (.call 202 [(.t 78), (.k (.c (.int .i64 1))), (.k (.c (.int .i64 2147483648)))]) 76 true, B 80 (.pick (.t 76) (.t 79) (.k (.c (.bool false)))), B 81 (.mv (.t 80)), Bg 82 (.load true 46 (.t 1)) 81 true, Bg 83 (.fadr 0 (.t 1)) 81 true, Bg 84 (.load false 1 (.t 83)) 81 true, Bg 85 (.fadr 2 (.t 1)) 81 true, Bg 86 (.load false 1 (.t 85)) 81 true, Bg 87 (.fadr 3 (.t 1)) 81 true, Bg 88 (.load false 1 (.t 87)) 81 true, Bg 89 (.fadr 4 (.t 1)) 81 true, Bg 90 (.load false 1 (.t 89)) 81 true, Bg 91 (.build [.int .i64 0, .str [], .int .i64 0, .int .i64 0, .int .i64 0, .int .i64 0, .int .i64 0, .int .i64 0, .str [], .sl 1 [] .nil, .sl 6 [] .nil, .int .u8 0, .int .u8 0, .int .u8 0, .int .u8 0, .int .u8 0, .int .u8 0, .int .u8 0, .int .u8 0, .int .u8 0, .int .u8 0, .int .u8 0, .int .u8 0, .int .u8 0, .int .u8 0, .int .u8 0, .int .u8 0, .int .u8 0, .int .u8 0, .int .u8 0, .int .u8 0, .int .u8 0, .int .u8 0, .int .u8 0, .int .u8 0, .int .u8 0, .int .u8 0, .int .u8 0, .int .u8 0, .int .u8 0, .int .u8 0, .int .u8 0, .int .u8 0, .bool false, .int .i64 0, .int .i64 0] [(0, 1, (.t 84)), (2, 1, (.t 86)), (3, 1, (.t 88)), (4, 1, (.t 90))]) 81 true, Bg 92 (.call 306 [(.t 82), (.t 91)]) 81 true, B 93 (.pick (.t 81) (.t 92) (.k (.c (.bool false)))), B 2 (.asg (.t 93))] [2])
  .ret)
  (.seq (.reg [B 95 (.bin .eq (.t 17) (.k (.c (.int .i64 4)))), B 94 (.asg (.t 95))] [1, 3, 4, 17, 94])
  (.cond (.t 94) (.seq (.reg [B 96 (.fadr 44 (.t 1)), B 97 (.fadr 0 (.t 96)), B 98 (.load false 1 (.t 97)), B 99 (.call 202 [(.t 98), (.k (.c (.int .i64 0))), (.k (.c (.int .i64 2147483648)))]), B 100 (.mv (.t 99)), Bg 101 (.fadr 44 (.t 1)) 100 true, Bg 102 (.fadr 1 (.t 101)) 100 true, Bg 103 (.load false 1 (.t 102)) 100 true, Bg 104 (.call 202 [(.t 103), (.k (.c (.int .i64 0))), (.k (.c (.int .i64 2147483648)))]) 100 true, B 105 (.pick (.t 100) (.t 104) (.k (.c (.bool false)))), B 106 (.mv (.t 105)), Bg 107 (.load true 46 (.t 1)) 106 true, Bg 108 (.fadr 0 (.t 1)) 106 true, Bg 109 (.load false 1 (.t 108)) 106 true, Bg 110 (.fadr 44 (.t 1)) 106 true, Bg 111 (.load true 2 (.t 110)) 106 true, Bg 112 (.build [.int .i64 0, .str [], .int .i64 0, .int .i64 0, .int .i64 0, .int .i64 0, .int .i64 0, .int .i64 0, .str [], .sl 1 [] .nil, .sl 6 [] .nil, .int .u8 0, .int .u8 0, .int .u8 0, .int .u8 0, .int .u8 0, .int .u8 0, .int .u8 0, .int .u8 0, .int .u8 0, .int .u8 0, .int .u8 0, .int .u8 0, .int .u8 0, .int .u8 0, .int .u8 0, .int .u8 0, .int .u8 0, .int .u8 0, .int .u8 0, .int .u8 0, .int .u8 0, .int .u8 0, .int .u8 0, .int .u8 0, .int .u8 0, .int .u8 0, .int .u8 0, .int .u8 0, .int .u8 0, .int .u8 0, .int .u8 0, .int .u8 0, .bool false, .int .i64 0, .int .i64 0] [(0, 1, (.t 109)), (44, 2, (.t 111))]) 106 true, Bg 113 (.call 306 [(.t 107), (.t 112)]) 106 true, B 114 (.pick (.t 106) (.t 113) (.k (.c (.bool false)))), B 2 (.asg (.t 114))] [2])
  .ret)
  (.seq (.seq (.reg [B 116 (.bin .eq (.t 17) (.k (.c (.int .i64 5)))), B 115 (.asg (.t 116))] [1, 3, 4, 17, 115])
  (.cond (.t 115) .skip
  (.reg [B 117 (.bin .eq (.t 17) (.k (.c (.int .i64 7)))), B 115 (.asg (.t 117))] [1, 3, 4, 17, 115])))
  (.cond (.t 115) (.seq (.reg [B 118 (.mv (.t 4)), B 119 (.mv (.t 118)), Bg 120 (.mv (.t 3)) 119 true, B 121 (.pick (.t 119) (.t 120) (.k (.c (.bool false)))), B 122 (.mv (.t 121)), Bg 123 (.load true 46 (.t 1)) 122 true, Bg 124 (.fadr 0 (.t 1)) 122 true, Bg 125 (.load false 1 (.t 124)) 122 true, Bg 126 (.fadr 2 (.t 1)) 122 true, Bg 127 (.load false 1 (.t 126)) 122 true, Bg 128 (.fadr 1 (.t 1)) 122 true, Bg 129 (.load false 1 (.t 128)) 122 true, Bg 130 (.build [.int .i64 0, .str [], .int .i64 0, .int .i64 0, .int .i64 0, .int .i64 0, .int .i64 0, .int .i64 0, .str [], .sl 1 [] .nil, .sl 6 [] .nil, .int .u8 0, .int .u8 0, .int .u8 0, .int .u8 0, .int .u8 0, .int .u8 0, .int .u8 0, .int .u8 0, .int .u8 0, .int .u8 0, .int .u8 0, .int .u8 0, .int .u8 0, .int .u8 0, .int .u8 0, .int .u8 0, .int .u8 0, .int .u8 0, .int .u8 0, .int .u8 0, .int .u8 0, .int .u8 0, .int .u8 0, .int .u8 0, .int .u8 0, .int .u8 0, .int .u8 0, .int .u8 0, .int .u8 0, .int .u8 0, .int .u8 0, .int .u8 0, .bool false, .int .i64 0, .int .i64 0] [(0, 1, (.t 125)), (2, 1, (.t 127)), (1, 1, (.t 129))]) 122 true, Bg 131 (.call 306 [(.t 123), (.t 130)]) 122 true, B 132 (.pick (.t 122) (.t 131) (.k (.c (.bool false)))), B 2 (.asg (.t 132))] [2])
  .ret)
  (.seq (.reg [B 134 (.bin .eq (.t 17) (.k (.c (.int .i64 6)))), B 133 (.asg (.t 134))] [1, 4, 133])
  (.cond (.t 133) (.seq (.reg [B 135 (.mv (.t 4)), B 136 (.mv (.t 135)), Bg 137 (.load true 46 (.t 1)) 136 true, Bg 138 (.fadr 0 (.t 1)) 136 true, Bg 139 (.load false 1 (.t 138)) 136 true, Bg 140 (.fadr 2 (.t 1)) 136 true, Bg 141 (.load false 1 (.t 140)) 136 true, Bg 142 (.build [.int .i64 0, .str [], .int .i64 0, .int .i64 0, .int .i64 0, .int .i64 0, .int .i64 0, .int .i64 0, .str [], .sl 1 [] .nil, .sl 6 [] .nil, .int .u8 0, .int .u8 0, .int .u8 0, .int .u8 0, .int .u8 0, .int .u8 0, .int .u8 0, .int .u8 0, .int .u8 0, .int .u8 0, .int .u8 0, .int .u8 0, .int .u8 0, .int .u8 0, .int .u8 0, .int .u8 0, .int .u8 0, .int .u8 0, .int .u8 0, .int .u8 0, .int .u8 0, .int .u8 0, .int .u8 0, .int .u8 0, .int .u8 0, .int .u8 0, .int .u8 0, .int .u8 0, .int .u8 0, .int .u8 0, .int .u8 0, .int .u8 0, .bool false, .int .i64 0, .int .i64 0] [(0, 1, (.t 139)), (2, 1, (.t 141))]) 136 true, Bg 143 (.call 306 [(.t 137), (.t 142)]) 136 true, B 144 (.pick (.t 136) (.t 143) (.k (.c (.bool false)))), B 2 (.asg (.t 144))] [2])
  .ret)
  .skip))))))))))))))
  (.seq (.reg [B 2 (.asg (.k (.c (.bool false))))] [2])
  .ret))))))
def r256 : List ARes := [.tmp 2]
theorem k256 : bChk Tryz.prog 256 Tryz.f256 1 c256 r256 = true := by kernel_rfl
theorem p256 : Tryz.prog.funcs[256]? = some Tryz.f256 := by kernel_rfl

/-- scrivener/scrivenerref14.name -/
def c257 : BCode :=
  (.seq (.reg [B 2 (.asg (.k (.c (.bool false))))] [0])
  (.seq (.reg [B 3 (.mv (.t 0)), B 4 (.slen (.t 3)), B 5 (.bin .ge (.t 4) (.k (.c (.int .i64 1)))), B 6 (.mv (.t 5)), Bg 7 (.mv (.t 0)) 6 true, Bg 8 (.slen (.t 7)) 6 true, Bg 9 (.bin .le (.t 8) (.k (.c (.int .i64 40)))) 6 true, B 10 (.pick (.t 6) (.t 9) (.k (.c (.bool false)))), B 2 (.asg (.t 10))] [2])
  .ret))
def r257 : List ARes := [.tmp 2]
theorem k257 : bChk Tryz.prog 257 Tryz.f257 1 c257 r257 = true := by kernel_rfl
theorem p257 : Tryz.prog.funcs[257]? = some Tryz.f257 := by kernel_rfl

/-- (*scrivener/scrivenerref14.Catalog).there -/
def c258 : BCode :=
  (.seq (.reg [B 4 (.asg (.k (.c (.nilp))))] [0, 1])
  (.seq (.seq (.reg [B 5 (.mv (.t 1)), B 6 (.bin .lt (.t 5) (.k (.c (.int .i64 1)))), B 7 (.mv (.t 6)), Bg 8 (.mv (.t 1)) 7 false, Bg 9 (.mv (.t 0)) 7 false, Bg 10 (.nilck (.t 9)) 7 false, Bg 11 (.fadr 0 (.t 10)) 7 false, Bg 12 (.load false 1 (.t 11)) 7 false, Bg 13 (.len (.t 12)) 7 false, Bg 14 (.bin .gt (.t 8) (.t 13)) 7 false, B 15 (.pick (.t 7) (.k (.c (.bool true))) (.t 14)), B 16 (.mv (.t 15)), Bg 17 (.mv (.t 0)) 16 false, Bg 18 (.nilck (.t 17)) 16 false, Bg 19 (.fadr 0 (.t 18)) 16 false, Bg 20 (.load false 1 (.t 19)) 16 false, Bg 21 (.mv (.t 1)) 16 false, Bg 22 (.bin .sub (.t 21) (.k (.c (.int .i64 1)))) 16 false, Bg 23 (.iadr 4 (.t 20) (.t 22)) 16 false, Bg 24 (.fadr 2 (.t 23)) 16 false, Bg 25 (.load false 1 (.t 24)) 16 false, B 26 (.pick (.t 16) (.k (.c (.bool true))) (.t 25))] [0, 1, 26])
  (.cond (.t 26) (.seq (.reg [B 4 (.asg (.k (.c (.nilp))))] [4])
  .ret)
  .skip))
  (.seq (.reg [B 27 (.mv (.t 0)), B 28 (.nilck (.t 27)), B 29 (.fadr 0 (.t 28)), B 30 (.load false 1 (.t 29)), B 31 (.mv (.t 1)), B 32 (.bin .sub (.t 31) (.k (.c (.int .i64 1)))), B 33 (.iadr 4 (.t 30) (.t 32)), B 4 (.asg (.t 33))] [4])
  .ret)))
def r258 : List ARes := [.tmp 4]
theorem k258 : bChk Tryz.prog 258 Tryz.f258 2 c258 r258 = true := by kernel_rfl
theorem p258 : Tryz.prog.funcs[258]? = some Tryz.f258 := by kernel_rfl

/-- (*scrivener/scrivenerref14.Catalog).Has -/
def c259 : BCode :=
  (.seq (.reg [B 6 (.asg (.k (.c (.bool false))))] [0, 1, 2])
  (.seq (.reg [B 9 (.mv (.t 0)), B 10 (.mv (.t 1)), B 11 (.call 258 [(.t 9), (.t 10)]), B 7 (.asg (.t 11))] [2, 7])
  (.seq (.seq (.reg [B 8 (.asg (.k (.c (.int .i64 0))))] [2, 7, 8])
  (.block 0 (.loop (.seq (.seq (.reg [B 12 (.mv (.t 7)), B 13 (.bin .nenil (.t 12) (.k (.c (.nilp)))), B 14 (.mv (.t 13)), Bg 15 (.mv (.t 8)) 14 true, Bg 16 (.mv (.t 7)) 14 true, Bg 17 (.nilck (.t 16)) 14 true, Bg 18 (.fadr 3 (.t 17)) 14 true, Bg 19 (.load false 1 (.t 18)) 14 true, Bg 20 (.len (.t 19)) 14 true, Bg 21 (.bin .lt (.t 15) (.t 20)) 14 true, B 22 (.pick (.t 14) (.t 21) (.k (.c (.bool false))))] [2, 7, 8, 22])
  (.cond (.t 22) .skip
  (.exit 0)))
  (.seq (.block 1 (.seq (.reg [B 25 (.mv (.t 7)), B 26 (.nilck (.t 25)), B 27 (.fadr 3 (.t 26)), B 28 (.load false 1 (.t 27)), B 29 (.mv (.t 8)), B 30 (.iadr 1 (.t 28) (.t 29)), B 31 (.load false 1 (.t 30)), B 32 (.mv (.t 2)), B 33 (.bin .seq (.t 31) (.t 32))] [2, 7, 8, 33])
  (.cond (.t 33) (.seq (.reg [B 6 (.asg (.k (.c (.bool true))))] [6])
  .ret)
  .skip)))
  (.reg [B 23 (.mv (.t 8)), B 24 (.bin .add (.t 23) (.k (.c (.int .i64 1)))), B 8 (.asg (.t 24))] [2, 7, 8]))))))
  (.seq (.reg [B 6 (.asg (.k (.c (.bool false))))] [6])
  .ret))))
def r259 : List ARes := [.tmp 6]
theorem k259 : bChk Tryz.prog 259 Tryz.f259 3 c259 r259 = true := by kernel_rfl
theorem p259 : Tryz.prog.funcs[259]? = some Tryz.f259 := by kernel_rfl

/-- scrivener/value.shape -/
def c260 : BCode :=
  (.seq (.reg [B 1 (.boxR (.t 0)), B 2 (.asg (.k (.c (.int .i64 0))))] [1])
  (.seq (.reg [B 6 (.fadr 1 (.t 1)), B 7 (.load false 1 (.t 6)), B 8 (.bin .eq (.t 7) (.k (.c (.int .i64 0)))), B 9 (.mv (.t 8)), Bg 10 (.fadr 2 (.t 1)) 9 true, Bg 11 (.load false 1 (.t 10)) 9 true, Bg 12 (.bin .eq (.t 11) (.k (.c (.int .i64 0)))) 9 true, B 13 (.pick (.t 9) (.t 12) (.k (.c (.bool false)))), B 3 (.asg (.t 13))] [1, 3])
  (.seq (.reg [B 14 (.fadr 4 (.t 1)), B 15 (.load false 1 (.t 14)), B 16 (.len (.t 15)), B 17 (.bin .eq (.t 16) (.k (.c (.int .i64 0)))), B 18 (.mv (.t 17)), Bg 19 (.fadr 5 (.t 1)) 18 true, Bg 20 (.load false 1 (.t 19)) 18 true, Bg 21 (.len (.t 20)) 18 true, Bg 22 (.bin .eq (.t 21) (.k (.c (.int .i64 0)))) 18 true, B 23 (.pick (.t 18) (.t 22) (.k (.c (.bool false)))), B 4 (.asg (.t 23))] [1, 3, 4])
  (.seq (.reg [B 5 (.asg (.k (.c (.bool false))))] [1, 3, 4, 5])
  (.seq (.seq (.reg [B 24 (.fadr 0 (.t 1)), B 25 (.load false 1 (.t 24))] [1, 3, 4, 5, 25])
  (.block 0 (.seq (.reg [B 27 (.bin .eq (.t 25) (.k (.c (.int .i64 1)))), B 26 (.asg (.t 27))] [1, 3, 4, 5, 25, 26])
  (.cond (.t 26) (.reg [B 28 (.mv (.t 3)), B 29 (.mv (.t 28)), Bg 30 (.mv (.t 4)) 29 true, B 31 (.pick (.t 29) (.t 30) (.k (.c (.bool false)))), B 32 (.mv (.t 31)), Bg 33 (.fadr 3 (.t 1)) 32 true, Bg 34 (.load false 1 (.t 33)) 32 true, Bg 35 (.bin .seq (.t 34) (.k (.c (.str [])))) 32 true, B 36 (.pick (.t 32) (.t 35) (.k (.c (.bool false)))), B 5 (.asg (.t 36))] [1, 5])
  (.seq (.reg [B 38 (.bin .eq (.t 25) (.k (.c (.int .i64 2)))), B 37 (.asg (.t 38))] [1, 3, 4, 5, 25, 37])
  (.cond (.t 37) (.reg [B 39 (.fadr 1 (.t 1)), B 40 (.load false 1 (.t 39)), B 41 (.bin .shr (.t 40) (.k (.c (.int .u64 1)))), B 42 (.bin .eq (.t 41) (.k (.c (.int .i64 0)))), B 43 (.mv (.t 42)), Bg 44 (.fadr 2 (.t 1)) 43 true, Bg 45 (.load false 1 (.t 44)) 43 true, Bg 46 (.bin .eq (.t 45) (.k (.c (.int .i64 0)))) 43 true, B 47 (.pick (.t 43) (.t 46) (.k (.c (.bool false)))), B 48 (.mv (.t 47)), Bg 49 (.mv (.t 4)) 48 true, B 50 (.pick (.t 48) (.t 49) (.k (.c (.bool false)))), B 51 (.mv (.t 50)), Bg 52 (.fadr 3 (.t 1)) 51 true, Bg 53 (.load false 1 (.t 52)) 51 true, Bg 54 (.bin .seq (.t 53) (.k (.c (.str [])))) 51 true, B 55 (.pick (.t 51) (.t 54) (.k (.c (.bool false)))), B 5 (.asg (.t 55))] [1, 5])
  (.seq (.reg [B 57 (.bin .eq (.t 25) (.k (.c (.int .i64 3)))), B 56 (.asg (.t 57))] [1, 3, 4, 5, 25, 56])
  (.cond (.t 56) (.reg [B 58 (.fadr 2 (.t 1)), B 59 (.load false 1 (.t 58)), B 60 (.bin .eq (.t 59) (.k (.c (.int .i64 0)))), B 61 (.mv (.t 60)), Bg 62 (.mv (.t 4)) 61 true, B 63 (.pick (.t 61) (.t 62) (.k (.c (.bool false)))), B 64 (.mv (.t 63)), Bg 65 (.fadr 3 (.t 1)) 64 true, Bg 66 (.load false 1 (.t 65)) 64 true, Bg 67 (.bin .seq (.t 66) (.k (.c (.str [])))) 64 true, B 68 (.pick (.t 64) (.t 67) (.k (.c (.bool false)))), B 5 (.asg (.t 68))] [1, 5])
  (.seq (.reg [B 70 (.bin .eq (.t 25) (.k (.c (.int .i64 4)))), B 69 (.asg (.t 70))] [1, 3, 4, 5, 25, 69])
  (.cond (.t 69) (.reg [B 71 (.fadr 2 (.t 1)), B 72 (.load false 1 (.t 71)), B 73 (.bin .ge (.t 72) (.k (.c (.int .i64 1)))), B 74 (.mv (.t 73)), Bg 75 (.fadr 2 (.t 1)) 74 true, Bg 76 (.load false 1 (.t 75)) 74 true, Bg 77 (.bin .le (.t 76) (.k (.c (.int .i64 18)))) 74 true, B 78 (.pick (.t 74) (.t 77) (.k (.c (.bool false)))), B 79 (.mv (.t 78)), Bg 80 (.fadr 1 (.t 1)) 79 true, Bg 81 (.load false 1 (.t 80)) 79 true, Bg 82 (.bin .rem (.t 81) (.k (.c (.int .i64 10)))) 79 true, Bg 83 (.bin .ne (.t 82) (.k (.c (.int .i64 0)))) 79 true, B 84 (.pick (.t 79) (.t 83) (.k (.c (.bool false)))), B 85 (.mv (.t 84)), Bg 86 (.mv (.t 4)) 85 true, B 87 (.pick (.t 85) (.t 86) (.k (.c (.bool false)))), B 88 (.mv (.t 87)), Bg 89 (.fadr 3 (.t 1)) 88 true, Bg 90 (.load false 1 (.t 89)) 88 true, Bg 91 (.bin .seq (.t 90) (.k (.c (.str [])))) 88 true, B 92 (.pick (.t 88) (.t 91) (.k (.c (.bool false)))), B 5 (.asg (.t 92))] [1, 5])
  (.seq (.reg [B 94 (.bin .eq (.t 25) (.k (.c (.int .i64 5)))), B 93 (.asg (.t 94))] [1, 3, 4, 5, 25, 93])
  (.cond (.t 93) (.reg [B 95 (.fadr 1 (.t 1)), B 96 (.load false 1 (.t 95)), B 97 (.bin .ge (.t 96) (.k (.c (.int .i64 0)))), B 98 (.mv (.t 97)), Bg 99 (.fadr 1 (.t 1)) 98 true, Bg 100 (.load false 1 (.t 99)) 98 true, Bg 101 (.bin .le (.t 100) (.k (.c (.int .i64 9007199254740992)))) 98 true, B 102 (.pick (.t 98) (.t 101) (.k (.c (.bool false)))), B 103 (.mv (.t 102)), Bg 104 (.fadr 2 (.t 1)) 103 true, Bg 105 (.load false 1 (.t 104)) 103 true, Bg 106 (.bin .eq (.t 105) (.k (.c (.int .i64 0)))) 103 true, B 107 (.pick (.t 103) (.t 106) (.k (.c (.bool false)))), B 108 (.mv (.t 107)), Bg 109 (.mv (.t 4)) 108 true, B 110 (.pick (.t 108) (.t 109) (.k (.c (.bool false)))), B 111 (.mv (.t 110)), Bg 112 (.fadr 3 (.t 1)) 111 true, Bg 113 (.load false 1 (.t 112)) 111 true, Bg 114 (.bin .seq (.t 113) (.k (.c (.str [])))) 111 true, B 115 (.pick (.t 111) (.t 114) (.k (.c (.bool false)))), B 5 (.asg (.t 115))] [1, 5])
  (.seq (.seq (.reg [B 117 (.bin .eq (.t 25) (.k (.c (.int .i64 6)))), B 116 (.asg (.t 117))] [1, 3, 4, 5, 25, 116])
  (.cond (.t 116) .skip
  (.reg [B 118 (.bin .eq (.t 25) (.k (.c (.int .i64 7)))), B 116 (.asg (.t 118))] [1, 3, 4, 5, 25, 116])))
  (.cond (.t 116) (.reg [B 119 (.mv (.t 3)), B 120 (.mv (.t 119)), Bg 121 (.mv (.t 4)) 120 true, B 122 (.pick (.t 120) (.t 121) (.k (.c (.bool false)))), B 5 (.asg (.t 122))] [1, 5])
  (.seq (.reg [B 124 (.bin .eq (.t 25) (.k (.c (.int .i64 8)))), B 123 (.asg (.t 124))] [1, 3, 5, 25, 123])
  (.cond (.t 123) (.reg [B 125 (.mv (.t 3)), B 126 (.mv (.t 125)), Bg 127 (.fadr 4 (.t 1)) 126 true, Bg 128 (.load false 1 (.t 127)) 126 true, Bg 129 (.len (.t 128)) 126 true, Bg 130 (.bin .eq (.t 129) (.k (.c (.int .i64 0)))) 126 true, B 131 (.pick (.t 126) (.t 130) (.k (.c (.bool false)))), B 132 (.mv (.t 131)), Bg 133 (.fadr 3 (.t 1)) 132 true, Bg 134 (.load false 1 (.t 133)) 132 true, Bg 135 (.bin .seq (.t 134) (.k (.c (.str [])))) 132 true, B 136 (.pick (.t 132) (.t 135) (.k (.c (.bool false)))), B 5 (.asg (.t 136))] [1, 5])
  (.seq (.reg [B 138 (.bin .eq (.t 25) (.k (.c (.int .i64 9)))), B 137 (.asg (.t 138))] [1, 3, 5, 137])
  (.cond (.t 137) (.reg [B 139 (.mv (.t 3)), B 140 (.mv (.t 139)), Bg 141 (.fadr 3 (.t 1)) 140 true, Bg 142 (.load false 1 (.t 141)) 140 true, Bg 143 (.bin .seq (.t 142) (.k (.c (.str [])))) 140 true, B 144 (.pick (.t 140) (.t 143) (.k (.c (.bool false)))), B 5 (.asg (.t 144))] [1, 5])
  .skip))))))))))))))))))
  (.seq (.block 1 (.seq (.reg [B 146 (.mv (.t 5)), B 147 (.not (.t 146)), B 145 (.asg (.t 147))] [1, 145])
  (.cond (.t 145) (.seq (.reg [B 2 (.asg (.k (.c (.int .i64 3))))] [2])
  .ret)
  (.seq (.reg [B 149 (.fadr 3 (.t 1)), B 150 (.load false 1 (.t 149)), B 151 (.slen (.t 150)), B 152 (.bin .gt (.t 151) (.k (.c (.int .i64 16384)))), B 153 (.mv (.t 152)), Bg 154 (.fadr 5 (.t 1)) 153 false, Bg 155 (.load false 1 (.t 154)) 153 false, Bg 156 (.len (.t 155)) 153 false, Bg 157 (.bin .gt (.t 156) (.k (.c (.int .i64 200)))) 153 false, B 158 (.pick (.t 153) (.k (.c (.bool true))) (.t 157)), B 148 (.asg (.t 158))] [1, 148])
  (.cond (.t 148) (.seq (.reg [B 2 (.asg (.k (.c (.int .i64 5))))] [2])
  .ret)
  (.seq (.reg [B 160 (.fadr 0 (.t 1)), B 161 (.load false 1 (.t 160)), B 162 (.bin .eq (.t 161) (.k (.c (.int .i64 9)))), B 163 (.mv (.t 162)), Bg 164 (.load true 6 (.t 1)) 163 true, Bg 165 (.call 309 [(.t 164)]) 163 true, Bg 166 (.not (.t 165)) 163 true, B 167 (.pick (.t 163) (.t 166) (.k (.c (.bool false)))), B 159 (.asg (.t 167))] [159])
  (.cond (.t 159) (.seq (.reg [B 2 (.asg (.k (.c (.int .i64 3))))] [2])
  .ret)
  .skip)))))))
  (.seq (.reg [B 2 (.asg (.k (.c (.int .i64 0))))] [2])
  .ret)))))))
def r260 : List ARes := [.tmp 2]
theorem k260 : bChk Tryz.prog 260 Tryz.f260 1 c260 r260 = true := by kernel_rfl
theorem p260 : Tryz.prog.funcs[260]? = some Tryz.f260 := by kernel_rfl

/-- (*scrivener/codec.reader).byte -/
def c261 : BCode :=
  (.seq (.reg [B 2 (.asg (.k (.c (.int .u8 0))))] [0])
  (.seq (.seq (.reg [B 4 (.mv (.t 0)), B 5 (.nilck (.t 4)), B 6 (.fadr 1 (.t 5)), B 7 (.load false 1 (.t 6)), B 8 (.bin .eq (.t 7) (.k (.c (.int .i64 0)))), B 9 (.mv (.t 8)), Bg 10 (.mv (.t 0)) 9 true, Bg 11 (.nilck (.t 10)) 9 true, Bg 12 (.fadr 0 (.t 11)) 9 true, Bg 13 (.load false 1 (.t 12)) 9 true, Bg 14 (.len (.t 13)) 9 true, Bg 15 (.bin .eq (.t 14) (.k (.c (.int .i64 0)))) 9 true, B 16 (.pick (.t 9) (.t 15) (.k (.c (.bool false))))] [0, 16])
  (.cond (.t 16) (.reg [B 17 (.mv (.t 0)), B 18 (.call 212 [(.t 17), (.k (.c (.int .i64 2)))])] [0])
  .skip))
  (.seq (.seq (.reg [B 19 (.mv (.t 0)), B 20 (.nilck (.t 19)), B 21 (.fadr 1 (.t 20)), B 22 (.load false 1 (.t 21)), B 23 (.bin .ne (.t 22) (.k (.c (.int .i64 0))))] [0, 23])
  (.cond (.t 23) (.seq (.reg [B 2 (.asg (.k (.c (.int .u8 0))))] [2])
  .ret)
  .skip))
  (.seq (.reg [B 24 (.mv (.t 0)), B 25 (.nilck (.t 24)), B 26 (.fadr 0 (.t 25)), B 27 (.load false 1 (.t 26)), B 28 (.iadr 1 (.t 27) (.k (.c (.int .i64 0)))), B 29 (.load false 1 (.t 28)), B 3 (.asg (.t 29))] [0, 3])
  (.seq (.reg [B 30 (.mv (.t 0)), B 31 (.mv (.t 0)), B 32 (.nilck (.t 31)), B 33 (.fadr 0 (.t 32)), B 34 (.load false 1 (.t 33)), B 35 (.slice 1 (.t 34) (some (.k (.c (.int .i64 1)))) none none), B 36 (.nilck (.t 30)), B 37 (.fadr 0 (.t 36)), Bn (.store 1 (.t 37) (.t 35))] [3])
  (.seq (.reg [B 38 (.mv (.t 3)), B 2 (.asg (.t 38))] [2])
  .ret))))))
def r261 : List ARes := [.tmp 2]
theorem k261 : bChk Tryz.prog 261 Tryz.f261 1 c261 r261 = true := by kernel_rfl
theorem p261 : Tryz.prog.funcs[261]? = some Tryz.f261 := by kernel_rfl

/-- (*scrivener/codec.reader).number -/
def c262 : BCode :=
  (.seq (.reg [B 2 (.asg (.k (.c (.int .u64 0))))] [0])
  (.seq (.seq (.reg [B 6 (.mv (.t 0)), B 7 (.nilck (.t 6)), B 8 (.fadr 1 (.t 7)), B 9 (.load false 1 (.t 8)), B 10 (.bin .ne (.t 9) (.k (.c (.int .i64 0))))] [0, 10])
  (.cond (.t 10) (.seq (.reg [B 2 (.asg (.k (.c (.int .u64 0))))] [2])
  .ret)
  .skip))
  (.seq (.reg [B 12 (.mv (.t 0)), B 13 (.nilck (.t 12)), B 14 (.fadr 0 (.t 13)), B 15 (.load false 1 (.t 14)), B 16 (.call 164 [(.t 15)]), B 11 (.mv (.t 16)), B 17 (.extract 0 (.t 11)), B 18 (.extract 1 (.t 11)), B 19 (.extract 2 (.t 11)), B 3 (.asg (.t 17)), B 4 (.asg (.t 18)), B 5 (.asg (.t 19))] [0, 3, 4, 5])
  (.seq (.seq (.reg [B 20 (.mv (.t 5)), B 21 (.bin .ne (.t 20) (.k (.c (.int .i64 0))))] [0, 3, 4, 5, 21])
  (.cond (.t 21) (.seq (.reg [B 22 (.mv (.t 0)), B 23 (.mv (.t 5)), B 24 (.call 212 [(.t 22), (.t 23)])] [])
  (.seq (.reg [B 2 (.asg (.k (.c (.int .u64 0))))] [2])
  .ret))
  .skip))
  (.seq (.reg [B 25 (.mv (.t 0)), B 26 (.mv (.t 0)), B 27 (.nilck (.t 26)), B 28 (.fadr 0 (.t 27)), B 29 (.load false 1 (.t 28)), B 30 (.mv (.t 4)), B 31 (.slice 1 (.t 29) (some (.t 30)) none none), B 32 (.nilck (.t 25)), B 33 (.fadr 0 (.t 32)), Bn (.store 1 (.t 33) (.t 31))] [3])
  (.seq (.reg [B 34 (.mv (.t 3)), B 2 (.asg (.t 34))] [2])
  .ret))))))
def r262 : List ARes := [.tmp 2]
theorem k262 : bChk Tryz.prog 262 Tryz.f262 1 c262 r262 = true := by kernel_rfl
theorem p262 : Tryz.prog.funcs[262]? = some Tryz.f262 := by kernel_rfl

/-- (*scrivener/codec.reader).text -/
def c263 : BCode :=
  (.seq (.reg [B 2 (.asg (.k (.c (.str []))))] [0])
  (.seq (.reg [B 5 (.mv (.t 0)), B 6 (.call 264 [(.t 5)]), B 3 (.asg (.t 6))] [0, 3])
  (.seq (.seq (.reg [B 7 (.mv (.t 0)), B 8 (.nilck (.t 7)), B 9 (.fadr 1 (.t 8)), B 10 (.load false 1 (.t 9)), B 11 (.bin .eq (.t 10) (.k (.c (.int .i64 0)))), B 12 (.mv (.t 11)), Bg 13 (.mv (.t 3)) 12 true, Bg 14 (.mv (.t 0)) 12 true, Bg 15 (.nilck (.t 14)) 12 true, Bg 16 (.fadr 0 (.t 15)) 12 true, Bg 17 (.load false 1 (.t 16)) 12 true, Bg 18 (.len (.t 17)) 12 true, Bg 19 (.bin .gt (.t 13) (.t 18)) 12 true, B 20 (.pick (.t 12) (.t 19) (.k (.c (.bool false))))] [0, 3, 20])
  (.cond (.t 20) (.reg [B 21 (.mv (.t 0)), B 22 (.call 212 [(.t 21), (.k (.c (.int .i64 2)))])] [0, 3])
  .skip))
  (.seq (.seq (.reg [B 23 (.mv (.t 0)), B 24 (.nilck (.t 23)), B 25 (.fadr 1 (.t 24)), B 26 (.load false 1 (.t 25)), B 27 (.bin .ne (.t 26) (.k (.c (.int .i64 0))))] [0, 3, 27])
  (.cond (.t 27) (.seq (.reg [B 2 (.asg (.k (.c (.str []))))] [2])
  .ret)
  .skip))
  (.seq (.reg [B 28 (.mv (.t 0)), B 29 (.nilck (.t 28)), B 30 (.fadr 0 (.t 29)), B 31 (.load false 1 (.t 30)), B 32 (.mv (.t 3)), B 33 (.slice 1 (.t 31) none (some (.t 32)) none), B 34 (.bytess (.t 33)), B 4 (.asg (.t 34))] [0, 3, 4])
  (.seq (.reg [B 35 (.mv (.t 0)), B 36 (.mv (.t 0)), B 37 (.nilck (.t 36)), B 38 (.fadr 0 (.t 37)), B 39 (.load false 1 (.t 38)), B 40 (.mv (.t 3)), B 41 (.slice 1 (.t 39) (some (.t 40)) none none), B 42 (.nilck (.t 35)), B 43 (.fadr 0 (.t 42)), Bn (.store 1 (.t 43) (.t 41))] [4])
  (.seq (.reg [B 44 (.mv (.t 4)), B 2 (.asg (.t 44))] [2])
  .ret)))))))
def r263 : List ARes := [.tmp 2]
theorem k263 : bChk Tryz.prog 263 Tryz.f263 1 c263 r263 = true := by kernel_rfl
theorem p263 : Tryz.prog.funcs[263]? = some Tryz.f263 := by kernel_rfl

/-- (*scrivener/codec.reader).count -/
def c264 : BCode :=
  (.seq (.reg [B 2 (.asg (.k (.c (.int .i64 0))))] [0])
  (.seq (.reg [B 4 (.mv (.t 0)), B 5 (.call 262 [(.t 4)]), B 3 (.asg (.t 5))] [0, 3])
  (.seq (.seq (.reg [B 6 (.mv (.t 3)), B 7 (.bin .gt (.t 6) (.k (.c (.int .u64 65536))))] [0, 3, 7])
  (.cond (.t 7) (.seq (.reg [B 8 (.mv (.t 0)), B 9 (.call 212 [(.t 8), (.k (.c (.int .i64 3)))])] [])
  (.seq (.reg [B 2 (.asg (.k (.c (.int .i64 0))))] [2])
  .ret))
  .skip))
  (.seq (.reg [B 10 (.mv (.t 3)), B 11 (.conv .i64 (.t 10)), B 2 (.asg (.t 11))] [2])
  .ret))))
def r264 : List ARes := [.tmp 2]
theorem k264 : bChk Tryz.prog 264 Tryz.f264 1 c264 r264 = true := by kernel_rfl
theorem p264 : Tryz.prog.funcs[264]? = some Tryz.f264 := by kernel_rfl

/-- scrivener/digest.word -/
def c265 : BCode :=
  (.seq (.reg [B 2 (.asg (.k (.c (.int .u32 0))))] [0])
  (.seq (.regd [Oo 3 (.mv (.t 0)), Oo 4 (.iadr 1 (.t 3) (.k (.c (.int .i64 0)))), Oo 5 (.load false 1 (.t 4)), Oo 6 (.conv .u32 (.t 5)), Oo 7 (.bin .shl (.t 6) (.k (.c (.int .u64 24)))), Oo 8 (.mv (.t 0)), Oo 9 (.iadr 1 (.t 8) (.k (.c (.int .i64 1)))), Oo 10 (.load false 1 (.t 9)), Oo 11 (.conv .u32 (.t 10)), Oo 12 (.bin .shl (.t 11) (.k (.c (.int .u64 16)))), Oo 13 (.bin .or (.t 7) (.t 12)), Oo 14 (.mv (.t 0)), Oo 15 (.iadr 1 (.t 14) (.k (.c (.int .i64 2)))), Oo 16 (.load false 1 (.t 15)), Oo 17 (.conv .u32 (.t 16)), Oo 18 (.bin .shl (.t 17) (.k (.c (.int .u64 8)))), Oo 19 (.bin .or (.t 13) (.t 18)), Oo 20 (.mv (.t 0)), Oo 21 (.iadr 1 (.t 20) (.k (.c (.int .i64 3)))), Oo 22 (.load false 1 (.t 21)), Oo 23 (.conv .u32 (.t 22)), Oo 24 (.bin .or (.t 19) (.t 23)), Oo 2 (.asg (.t 24))]
    (.fl 0 (.fl 1 (.fl 2 (.fl 3 (.fl 4 (.fl 5 (.fl 6 (.fl 7 (.fl 8 (.fl 9 (.fl 10 (.fl 11 (.fl 12 (.fl 13 (.fl 14 (.fl 15 (.fl 16 (.fl 17 (.fl 18 (.fl 19 (.fl 20 (.fl 21 (.ch 22 [] .done))))))))))))))))))))))) [2])
  .ret))
def r265 : List ARes := [.tmp 2]
theorem k265 : bChk Tryz.prog 265 Tryz.f265 1 c265 r265 = true := by kernel_rfl
theorem p265 : Tryz.prog.funcs[265]? = some Tryz.f265 := by kernel_rfl

/-- scrivener/digest.turn -/
def c266 : BCode :=
  (.seq (.reg [B 4 (.asg (.k (.c (.int .u32 0))))] [0, 1])
  (.seq (.reg [B 5 (.mv (.t 0)), B 6 (.mv (.t 1)), B 7 (.bin .shr (.t 5) (.t 6)), B 8 (.mv (.t 0)), B 9 (.mv (.t 1)), B 10 (.bin .sub (.k (.c (.int .u64 32))) (.t 9)), B 11 (.bin .shl (.t 8) (.t 10)), B 12 (.bin .or (.t 7) (.t 11)), B 4 (.asg (.t 12))] [4])
  .ret))
def r266 : List ARes := [.tmp 4]
theorem k266 : bChk Tryz.prog 266 Tryz.f266 2 c266 r266 = true := by kernel_rfl
theorem p266 : Tryz.prog.funcs[266]? = some Tryz.f266 := by kernel_rfl

/-- (*scrivener/client.Client).proved -/
def c267 : BCode :=
  (.seq (.reg [B 3 (.boxR (.t 1)), B 4 (.asg (.k (.c (.sl 3 [] .nil))))] [0, 3])
  (.seq (.reg [B 5 (.alloc [.sl 32 [] .nil])] [0, 3, 5])
  (.seq (.reg [B 7 (.fadr 4 (.t 3)), B 8 (.load false 1 (.t 7)), B 6 (.asg (.t 8))] [0, 3, 5, 6])
  (.seq (.block 0 (.loop (.seq (.seq (.reg [B 9 (.mv (.t 6)), B 10 (.len (.t 9)), B 11 (.bin .ge (.t 10) (.k (.c (.int .i64 32))))] [0, 3, 5, 6, 11])
  (.cond (.t 11) .skip
  (.exit 0)))
  (.seq (.block 1 (.regd [Oo 14 (.fadr 0 (.t 5)), Oo 15 (.load false 1 (.t 14)), Oo 16 (.mv (.t 6)), Oo 17 (.slice 1 (.t 16) none (some (.k (.c (.int .i64 32)))) none), Oo 18 (.bad), Oo 19 (.load true 32 (.t 18)), Oo 20 (.slR 32 1 [.int .u8 0, .int .u8 0, .int .u8 0, .int .u8 0, .int .u8 0, .int .u8 0, .int .u8 0, .int .u8 0, .int .u8 0, .int .u8 0, .int .u8 0, .int .u8 0, .int .u8 0, .int .u8 0, .int .u8 0, .int .u8 0, .int .u8 0, .int .u8 0, .int .u8 0, .int .u8 0, .int .u8 0, .int .u8 0, .int .u8 0, .int .u8 0, .int .u8 0, .int .u8 0, .int .u8 0, .int .u8 0, .int .u8 0, .int .u8 0, .int .u8 0, .int .u8 0] [(0, 32, (.t 19))]), Oo 21 (.app 32 32 (.t 15) (.t 20)), Oo 22 (.fadr 0 (.t 5)), On (.store 1 (.t 22) (.t 21))]
    (.fl 0 (.fl 1 (.fl 2 (.fl 3 (.ch 4 [1] (.fl 5 (.fl 6 (.ch 7 [] (.fl 8 (.ch 9 [] .done)))))))))) [0, 3, 5, 6]))
  (.reg [B 12 (.mv (.t 6)), B 13 (.slice 1 (.t 12) (some (.k (.c (.int .i64 32)))) none none), B 6 (.asg (.t 13))] [0, 3, 5, 6])))))
  (.seq (.seq (.regd [Oo 23 (.fadr 1 (.t 3)), Oo 24 (.load false 1 (.t 23)), Oo 25 (.bin .ne (.t 24) (.k (.c (.int .i64 0)))), Oo 26 (.mv (.t 25)), Og 27 (.mv (.t 6)) 26 false, Og 28 (.len (.t 27)) 26 false, Og 29 (.bin .gt (.t 28) (.k (.c (.int .i64 0)))) 26 false, Oo 30 (.pick (.t 26) (.k (.c (.bool true))) (.t 29)), Oo 31 (.mv (.t 30)), Og 32 (.mv (.t 0)) 31 false, Og 33 (.nilck (.t 32)) 31 false, Og 34 (.fadr 11 (.t 33)) 31 false, Og 35 (.load true 33 (.t 34)) 31 false, Og 36 (.mv (.t 0)) 31 false, Og 37 (.nilck (.t 36)) 31 false, Og 38 (.fadr 7 (.t 37)) 31 false, Og 39 (.load false 1 (.t 38)) 31 false, Og 40 (.nilck (.t 39)) 31 false, Og 41 (.fadr 39 (.t 40)) 31 false, Og 42 (.load true 33 (.t 41)) 31 false, Og 43 (.load true 1 (.t 5)) 31 false, Og 44 (.call 310 [(.t 35), (.t 42), (.t 43)]) 31 false, Og 45 (.not (.t 44)) 31 false, Oo 46 (.pick (.t 31) (.k (.c (.bool true))) (.t 45))]
    (.fl 0 (.fl 1 (.fl 2 (.fl 3 (.fl 4 (.fl 5 (.fl 6 (.fl 7 (.fl 8 (.fl 9 (.fl 10 (.fl 11 (.fl 12 (.fl 13 (.fl 14 (.fl 15 (.fl 16 (.fl 17 (.fl 18 (.fl 19 (.fl 20 (.ch 21 [] (.fl 22 (.fl 23 .done)))))))))))))))))))))))) [0, 46])
  (.cond (.t 46) (.seq (.reg [B 47 (.mv (.t 0)), B 48 (.call 111 [(.t 47), (.k (.c (.int .i64 19)))]), B 4 (.asg (.t 48))] [4])
  .ret)
  .skip))
  (.seq (.reg [B 49 (.mv (.t 0)), B 50 (.mv (.t 0)), B 51 (.nilck (.t 50)), B 52 (.fadr 7 (.t 51)), B 53 (.load false 1 (.t 52)), B 54 (.nilck (.t 53)), B 55 (.fadr 39 (.t 54)), B 56 (.load true 33 (.t 55)), B 57 (.nilck (.t 49)), B 58 (.fadr 11 (.t 57)), Bn (.store 33 (.t 58) (.t 56))] [0])
  (.seq (.reg [B 59 (.mv (.t 0)), B 60 (.call 111 [(.t 59), (.k (.c (.int .i64 0)))]), B 4 (.asg (.t 60))] [4])
  .ret)))))))
def r267 : List ARes := [.tmp 4]
theorem k267 : bChk Tryz.prog 267 Tryz.f267 2 c267 r267 = true := by kernel_rfl
theorem p267 : Tryz.prog.funcs[267]? = some Tryz.f267 := by kernel_rfl

/-- scrivener/digest.Chain -/
def c268 : BCode :=
  (.seq (.reg [B 2 (.boxR (.t 0)), B 4 (.alloc [.int .u8 0, .int .u8 0, .int .u8 0, .int .u8 0, .int .u8 0, .int .u8 0, .int .u8 0, .int .u8 0, .int .u8 0, .int .u8 0, .int .u8 0, .int .u8 0, .int .u8 0, .int .u8 0, .int .u8 0, .int .u8 0, .int .u8 0, .int .u8 0, .int .u8 0, .int .u8 0, .int .u8 0, .int .u8 0, .int .u8 0, .int .u8 0, .int .u8 0, .int .u8 0, .int .u8 0, .int .u8 0, .int .u8 0, .int .u8 0, .int .u8 0, .int .u8 0])] [1, 2, 4])
  (.seq (.reg [B 5 (.slR 1 1 [.int .u8 0] [(0, 1, (.k (.c (.int .u8 2))))]), B 6 (.aslice 1 32 (.t 2)), B 7 (.app 1 1 (.t 5) (.t 6)), B 8 (.mv (.t 1)), B 9 (.app 1 1 (.t 7) (.t 8)), B 10 (.call 166 [(.t 9)]), Bn (.store 32 (.t 4) (.t 10))] [4])
  .ret))
def r268 : List ARes := [.cell 4 true 32]
theorem k268 : bChk Tryz.prog 268 Tryz.f268 2 c268 r268 = true := by kernel_rfl
theorem p268 : Tryz.prog.funcs[268]? = some Tryz.f268 := by kernel_rfl

/-- scrivener/scrivenerref2.r -/
def c269 : BCode :=
  (.seq (.reg [B 4 (.asg (.k (.c (.int .u32 0))))] [0, 1])
  (.seq (.reg [B 5 (.mv (.t 0)), B 6 (.mv (.t 1)), B 7 (.bin .shr (.t 5) (.t 6)), B 8 (.mv (.t 0)), B 9 (.mv (.t 1)), B 10 (.bin .sub (.k (.c (.int .u64 32))) (.t 9)), B 11 (.bin .shl (.t 8) (.t 10)), B 12 (.bin .or (.t 7) (.t 11)), B 4 (.asg (.t 12))] [4])
  .ret))
def r269 : List ARes := [.tmp 4]
theorem k269 : bChk Tryz.prog 269 Tryz.f269 2 c269 r269 = true := by kernel_rfl
theorem p269 : Tryz.prog.funcs[269]? = some Tryz.f269 := by kernel_rfl

/-- scrivener/scrivenerref11.u -/
def c304 : BCode :=
  (.seq (.reg [B 2 (.asg (.k (.c (.sl 1 [] .nil))))] [0])
  (.seq (.reg [B 3 (.mv (.t 0)), B 4 (.call 57 [(.t 3)]), B 2 (.asg (.t 4))] [2])
  .ret))
def r304 : List ARes := [.tmp 2]
theorem k304 : bChk Tryz.prog 304 Tryz.f304 1 c304 r304 = true := by kernel_rfl
theorem p304 : Tryz.prog.funcs[304]? = some Tryz.f304 := by kernel_rfl

/-- (*scrivener/scrivenerref11.reader).raw -/
def c305 : BCode :=
  (.seq (.reg [B 4 (.asg (.k (.c (.sl 1 [] .nil))))] [0, 1])
  (.seq (.seq (.reg [B 6 (.mv (.t 0)), B 7 (.nilck (.t 6)), B 8 (.fadr 1 (.t 7)), B 9 (.load false 1 (.t 8)), B 10 (.bin .eq (.t 9) (.k (.c (.int .i64 0)))), B 11 (.mv (.t 10)), Bg 12 (.mv (.t 0)) 11 true, Bg 13 (.nilck (.t 12)) 11 true, Bg 14 (.fadr 0 (.t 13)) 11 true, Bg 15 (.load false 1 (.t 14)) 11 true, Bg 16 (.len (.t 15)) 11 true, Bg 17 (.mv (.t 1)) 11 true, Bg 18 (.bin .lt (.t 16) (.t 17)) 11 true, B 19 (.pick (.t 11) (.t 18) (.k (.c (.bool false))))] [0, 1, 19])
  (.cond (.t 19) (.reg [B 20 (.mv (.t 0)), B 21 (.nilck (.t 20)), B 22 (.fadr 1 (.t 21)), Bn (.store 1 (.t 22) (.k (.c (.int .i64 2))))] [0, 1])
  .skip))
  (.seq (.seq (.reg [B 23 (.mv (.t 0)), B 24 (.nilck (.t 23)), B 25 (.fadr 1 (.t 24)), B 26 (.load false 1 (.t 25)), B 27 (.bin .ne (.t 26) (.k (.c (.int .i64 0))))] [0, 1, 27])
  (.cond (.t 27) (.seq (.reg [B 28 (.mv (.t 1)), B 29 (.mm false (.t 28) (.k (.c (.int .i64 32)))), B 30 (.mksl false 1 1 [.int .u8 0] (.t 29) (.t 29)), B 4 (.asg (.t 30))] [4])
  .ret)
  .skip))
  (.seq (.reg [B 31 (.mv (.t 0)), B 32 (.nilck (.t 31)), B 33 (.fadr 0 (.t 32)), B 34 (.load false 1 (.t 33)), B 35 (.mv (.t 1)), B 36 (.slice 1 (.t 34) none (some (.t 35)) none), B 5 (.asg (.t 36))] [0, 1, 5])
  (.seq (.reg [B 37 (.mv (.t 0)), B 38 (.mv (.t 0)), B 39 (.nilck (.t 38)), B 40 (.fadr 0 (.t 39)), B 41 (.load false 1 (.t 40)), B 42 (.mv (.t 1)), B 43 (.slice 1 (.t 41) (some (.t 42)) none none), B 44 (.nilck (.t 37)), B 45 (.fadr 0 (.t 44)), Bn (.store 1 (.t 45) (.t 43))] [5])
  (.seq (.reg [B 46 (.mv (.t 5)), B 4 (.asg (.t 46))] [4])
  .ret))))))
def r305 : List ARes := [.tmp 4]
theorem k305 : bChk Tryz.prog 305 Tryz.f305 2 c305 r305 = true := by kernel_rfl
theorem p305 : Tryz.prog.funcs[305]? = some Tryz.f305 := by kernel_rfl

/-- scrivener/scrivenerref11.plain -/
def c306 : BCode :=
  (.seq (.reg [B 2 (.boxR (.t 0)), B 3 (.boxR (.t 1)), B 4 (.asg (.k (.c (.bool false))))] [2, 3])
  (.seq (.reg [B 5 (.fadr 0 (.t 2)), B 6 (.load false 1 (.t 5)), B 7 (.fadr 0 (.t 3)), B 8 (.load false 1 (.t 7)), B 9 (.bin .eq (.t 6) (.t 8)), B 10 (.mv (.t 9)), Bg 11 (.fadr 1 (.t 2)) 10 true, Bg 12 (.load false 1 (.t 11)) 10 true, Bg 13 (.fadr 1 (.t 3)) 10 true, Bg 14 (.load false 1 (.t 13)) 10 true, Bg 15 (.bin .seq (.t 12) (.t 14)) 10 true, B 16 (.pick (.t 10) (.t 15) (.k (.c (.bool false)))), B 17 (.mv (.t 16)), Bg 18 (.fadr 2 (.t 2)) 17 true, Bg 19 (.load false 1 (.t 18)) 17 true, Bg 20 (.fadr 2 (.t 3)) 17 true, Bg 21 (.load false 1 (.t 20)) 17 true, Bg 22 (.bin .eq (.t 19) (.t 21)) 17 true, B 23 (.pick (.t 17) (.t 22) (.k (.c (.bool false)))), B 24 (.mv (.t 23)), Bg 25 (.fadr 3 (.t 2)) 24 true, Bg 26 (.load false 1 (.t 25)) 24 true, Bg 27 (.fadr 3 (.t 3)) 24 true, Bg 28 (.load false 1 (.t 27)) 24 true, Bg 29 (.bin .eq (.t 26) (.t 28)) 24 true, B 30 (.pick (.t 24) (.t 29) (.k (.c (.bool false)))), B 31 (.mv (.t 30)), Bg 32 (.fadr 4 (.t 2)) 31 true, Bg 33 (.load false 1 (.t 32)) 31 true, Bg 34 (.fadr 4 (.t 3)) 31 true, Bg 35 (.load false 1 (.t 34)) 31 true, Bg 36 (.bin .eq (.t 33) (.t 35)) 31 true, B 37 (.pick (.t 31) (.t 36) (.k (.c (.bool false)))), B 38 (.mv (.t 37)), Bg 39 (.fadr 11 (.t 2)) 38 true, Bg 40 (.load true 32 (.t 39)) 38 true, Bg 41 (.fadr 11 (.t 3)) 38 true, Bg 42 (.load true 32 (.t 41)) 38 true, Bg 43 (.aeq false (true, [.i .u8, .i .u8, .i .u8, .i .u8, .i .u8, .i .u8, .i .u8, .i .u8, .i .u8, .i .u8, .i .u8, .i .u8, .i .u8, .i .u8, .i .u8, .i .u8, .i .u8, .i .u8, .i .u8, .i .u8, .i .u8, .i .u8, .i .u8, .i .u8, .i .u8, .i .u8, .i .u8, .i .u8, .i .u8, .i .u8, .i .u8, .i .u8]) (.t 40) (.t 42)) 38 true, B 44 (.pick (.t 38) (.t 43) (.k (.c (.bool false)))), B 45 (.mv (.t 44)), Bg 46 (.fadr 43 (.t 2)) 45 true, Bg 47 (.load false 1 (.t 46)) 45 true, Bg 48 (.fadr 43 (.t 3)) 45 true, Bg 49 (.load false 1 (.t 48)) 45 true, Bg 50 (.bin .eqb (.t 47) (.t 49)) 45 true, B 51 (.pick (.t 45) (.t 50) (.k (.c (.bool false)))), B 52 (.mv (.t 51)), Bg 53 (.fadr 44 (.t 2)) 52 true, Bg 54 (.load true 2 (.t 53)) 52 true, Bg 55 (.fadr 44 (.t 3)) 52 true, Bg 56 (.load true 2 (.t 55)) 52 true, Bg 57 (.aeq false (true, [.i .i64, .i .i64]) (.t 54) (.t 56)) 52 true, B 58 (.pick (.t 52) (.t 57) (.k (.c (.bool false)))), B 59 (.mv (.t 58)), Bg 60 (.fadr 5 (.t 2)) 59 true, Bg 61 (.load true 6 (.t 60)) 59 true, Bg 62 (.call 307 [(.t 61)]) 59 true, B 63 (.pick (.t 59) (.t 62) (.k (.c (.bool false)))), B 4 (.asg (.t 63))] [4])
  .ret))
def r306 : List ARes := [.tmp 4]
theorem k306 : bChk Tryz.prog 306 Tryz.f306 2 c306 r306 = true := by kernel_rfl
theorem p306 : Tryz.prog.funcs[306]? = some Tryz.f306 := by kernel_rfl

/-- scrivener/scrivenerref11.empty -/
def c307 : BCode :=
  (.seq (.reg [B 1 (.boxR (.t 0)), B 2 (.asg (.k (.c (.bool false))))] [1])
  (.seq (.reg [B 3 (.load true 6 (.t 1)), B 4 (.build [.int .i64 0, .int .i64 0, .int .i64 0, .str [], .sl 1 [] .nil, .sl 6 [] .nil] []), B 5 (.call 118 [(.t 3), (.t 4)]), B 2 (.asg (.t 5))] [2])
  .ret))
def r307 : List ARes := [.tmp 2]
theorem k307 : bChk Tryz.prog 307 Tryz.f307 1 c307 r307 = true := by kernel_rfl
theorem p307 : Tryz.prog.funcs[307]? = some Tryz.f307 := by kernel_rfl

/-- scrivener/scrivenerref11.bare -/
def c308 : BCode :=
  (.seq (.reg [B 1 (.box (.t 0)), B 2 (.alloc [.int .i64 0, .str [], .int .i64 0, .int .i64 0, .int .i64 0, .int .i64 0, .int .i64 0, .int .i64 0, .str [], .sl 1 [] .nil, .sl 6 [] .nil, .int .u8 0, .int .u8 0, .int .u8 0, .int .u8 0, .int .u8 0, .int .u8 0, .int .u8 0, .int .u8 0, .int .u8 0, .int .u8 0, .int .u8 0, .int .u8 0, .int .u8 0, .int .u8 0, .int .u8 0, .int .u8 0, .int .u8 0, .int .u8 0, .int .u8 0, .int .u8 0, .int .u8 0, .int .u8 0, .int .u8 0, .int .u8 0, .int .u8 0, .int .u8 0, .int .u8 0, .int .u8 0, .int .u8 0, .int .u8 0, .int .u8 0, .int .u8 0, .bool false, .int .i64 0, .int .i64 0])] [1, 2])
  (.seq (.reg [B 3 (.build [.int .i64 0, .int .i64 0, .int .i64 0, .str [], .sl 1 [] .nil, .sl 6 [] .nil] []), B 4 (.fadr 5 (.t 1)), Bn (.store 6 (.t 4) (.t 3))] [1, 2])
  (.seq (.reg [B 5 (.load true 46 (.t 1)), Bn (.store 46 (.t 2) (.t 5))] [2])
  .ret)))
def r308 : List ARes := [.cell 2 true 46]
theorem k308 : bChk Tryz.prog 308 Tryz.f308 1 c308 r308 = true := by kernel_rfl
theorem p308 : Tryz.prog.funcs[308]? = some Tryz.f308 := by kernel_rfl

/-- scrivener/value.fields -/
def c309 : BCode :=
  (.seq (.reg [B 1 (.boxR (.t 0)), B 2 (.asg (.k (.c (.bool false))))] [1])
  (.seq (.seq (.reg [B 5 (.fadr 4 (.t 1)), B 6 (.load false 1 (.t 5)), B 7 (.len (.t 6)), B 8 (.mv (.k (.c (.int .i64 0))))] [1, 6, 7, 8])
  (.block 0 (.loop (.seq (.reg [B 9 (.bin .lt (.t 8) (.t 7))] [1, 6, 7, 8, 9])
  (.seq (.cond (.t 9) .skip
  (.exit 0))
  (.seq (.block 1 (.seq (.reg [B 10 (.mv (.t 8)), B 11 (.iadr 1 (.t 6) (.t 8)), B 12 (.load false 1 (.t 11)), B 3 (.asg (.t 10)), B 4 (.asg (.t 12))] [1, 3, 4, 6, 7, 8])
  (.seq (.reg [B 13 (.mv (.t 4)), B 14 (.call 343 [(.t 13)]), B 15 (.not (.t 14)), B 16 (.mv (.t 15)), Bg 17 (.mv (.t 3)) 16 false, Bg 18 (.bin .gt (.t 17) (.k (.c (.int .i64 0)))) 16 false, Bg 19 (.mv (.t 18)) 16 false, Bg 20 (.mv (.t 4)) 19 true, Bg 21 (.fadr 4 (.t 1)) 19 true, Bg 22 (.load false 1 (.t 21)) 19 true, Bg 23 (.mv (.t 3)) 19 true, Bg 24 (.bin .sub (.t 23) (.k (.c (.int .i64 1)))) 19 true, Bg 25 (.iadr 1 (.t 22) (.t 24)) 19 true, Bg 26 (.load false 1 (.t 25)) 19 true, Bg 27 (.bin .sle (.t 20) (.t 26)) 19 true, Bg 28 (.pick (.t 19) (.t 27) (.k (.c (.bool false)))) 16 false, B 29 (.pick (.t 16) (.k (.c (.bool true))) (.t 28))] [1, 6, 7, 8, 29])
  (.cond (.t 29) (.seq (.reg [B 2 (.asg (.k (.c (.bool false))))] [2])
  .ret)
  .skip))))
  (.reg [B 30 (.bin .add (.t 8) (.k (.c (.int .i64 1)))), B 8 (.mv (.t 30))] [1, 6, 7, 8])))))))
  (.seq (.reg [B 31 (.fadr 4 (.t 1)), B 32 (.load false 1 (.t 31)), B 33 (.len (.t 32)), B 34 (.fadr 5 (.t 1)), B 35 (.load false 1 (.t 34)), B 36 (.len (.t 35)), B 37 (.bin .eq (.t 33) (.t 36)), B 2 (.asg (.t 37))] [2])
  .ret)))
def r309 : List ARes := [.tmp 2]
theorem k309 : bChk Tryz.prog 309 Tryz.f309 1 c309 r309 = true := by kernel_rfl
theorem p309 : Tryz.prog.funcs[309]? = some Tryz.f309 := by kernel_rfl

/-- scrivener/verify.Consist -/
def c310 : BCode :=
  (.seq (.reg [B 3 (.boxR (.t 0)), B 4 (.boxR (.t 1)), B 5 (.boxR (.t 2)), B 6 (.asg (.k (.c (.bool false))))] [3, 4, 5])
  (.seq (.seq (.reg [B 7 (.fadr 0 (.t 3)), B 8 (.load false 1 (.t 7)), B 9 (.bin .eq (.t 8) (.k (.c (.int .i64 0))))] [3, 4, 5, 9])
  (.cond (.t 9) (.seq (.regd [Oo 10 (.fadr 0 (.t 5)), Oo 11 (.load false 1 (.t 10)), Oo 12 (.len (.t 11)), Oo 13 (.bin .eq (.t 12) (.k (.c (.int .i64 0)))), Oo 14 (.mv (.t 13)), Og 15 (.fadr 1 (.t 3)) 14 true, Og 16 (.load true 32 (.t 15)) 14 true, Og 17 (.call 166 [(.k (.c (.sl 1 [] .nil)))]) 14 true, Og 18 (.aeq false (true, [.i .u8, .i .u8, .i .u8, .i .u8, .i .u8, .i .u8, .i .u8, .i .u8, .i .u8, .i .u8, .i .u8, .i .u8, .i .u8, .i .u8, .i .u8, .i .u8, .i .u8, .i .u8, .i .u8, .i .u8, .i .u8, .i .u8, .i .u8, .i .u8, .i .u8, .i .u8, .i .u8, .i .u8, .i .u8, .i .u8, .i .u8, .i .u8]) (.t 16) (.t 17)) 14 true, Oo 19 (.pick (.t 14) (.t 18) (.k (.c (.bool false)))), Oo 6 (.asg (.t 19))]
    (.fl 0 (.fl 1 (.fl 2 (.fl 3 (.fl 4 (.fl 5 (.fl 6 (.ch 7 [6] (.fl 8 (.fl 9 (.ch 10 [] .done))))))))))) [6])
  .ret)
  .skip))
  (.seq (.reg [B 20 (.fadr 0 (.t 3)), B 21 (.load false 1 (.t 20)), B 22 (.fadr 0 (.t 4)), B 23 (.load false 1 (.t 22)), B 24 (.load true 1 (.t 5)), B 25 (.fadr 1 (.t 3)), B 26 (.load true 32 (.t 25)), B 27 (.fadr 1 (.t 4)), B 28 (.load true 32 (.t 27)), B 29 (.call 344 [(.t 21), (.t 23), (.t 24), (.t 26), (.t 28)]), B 6 (.asg (.t 29))] [6])
  .ret)))
def r310 : List ARes := [.tmp 6]
theorem k310 : bChk Tryz.prog 310 Tryz.f310 3 c310 r310 = true := by kernel_rfl
theorem p310 : Tryz.prog.funcs[310]? = some Tryz.f310 := by kernel_rfl

/-- scrivener/value.isName -/
def c343 : BCode :=
  (.seq (.reg [B 2 (.asg (.k (.c (.bool false))))] [0])
  (.seq (.reg [B 3 (.mv (.t 0)), B 4 (.slen (.t 3)), B 5 (.bin .ge (.t 4) (.k (.c (.int .i64 1)))), B 6 (.mv (.t 5)), Bg 7 (.mv (.t 0)) 6 true, Bg 8 (.slen (.t 7)) 6 true, Bg 9 (.bin .le (.t 8) (.k (.c (.int .i64 40)))) 6 true, B 10 (.pick (.t 6) (.t 9) (.k (.c (.bool false)))), B 2 (.asg (.t 10))] [2])
  .ret))
def r343 : List ARes := [.tmp 2]
theorem k343 : bChk Tryz.prog 343 Tryz.f343 1 c343 r343 = true := by kernel_rfl
theorem p343 : Tryz.prog.funcs[343]? = some Tryz.f343 := by kernel_rfl

/-- scrivener/merkle.VerifyConsist -/
def c344 : BCode :=
  (.seq (.reg [B 7 (.boxR (.t 2)), B 8 (.boxR (.t 3)), B 9 (.boxR (.t 4)), B 10 (.asg (.k (.c (.bool false))))] [0, 1, 7, 8, 9])
  (.seq (.seq (.reg [B 14 (.mv (.t 0)), B 15 (.bin .lt (.t 14) (.k (.c (.int .i64 1)))), B 16 (.mv (.t 15)), Bg 17 (.mv (.t 0)) 16 false, Bg 18 (.mv (.t 1)) 16 false, Bg 19 (.bin .gt (.t 17) (.t 18)) 16 false, B 20 (.pick (.t 16) (.k (.c (.bool true))) (.t 19)), B 21 (.mv (.t 20)), Bg 22 (.mv (.t 1)) 21 false, Bg 23 (.bin .gt (.t 22) (.k (.c (.int .i64 1099511627776)))) 21 false, B 24 (.pick (.t 21) (.k (.c (.bool true))) (.t 23))] [0, 1, 7, 8, 9, 24])
  (.cond (.t 24) (.seq (.reg [B 10 (.asg (.k (.c (.bool false))))] [10])
  .ret)
  .skip))
  (.seq (.reg [B 25 (.fadr 0 (.t 7)), B 26 (.load false 1 (.t 25)), B 27 (.build [.sl 32 [] .nil, .bool false] [(0, 1, (.t 26)), (1, 1, (.k (.c (.bool true))))]), B 28 (.box (.t 27)), B 11 (.asg (.t 28))] [0, 1, 8, 9, 11])
  (.seq (.reg [B 30 (.mv (.t 11)), B 31 (.mv (.t 0)), B 32 (.mv (.t 1)), B 33 (.load true 32 (.t 8)), B 34 (.call 380 [(.t 30), (.t 31), (.t 32), (.k (.c (.bool true))), (.t 33)]), B 29 (.mv (.t 34)), B 35 (.extract 0 (.t 29)), B 36 (.extract 1 (.t 29)), B 12 (.alloc [.int .u8 0, .int .u8 0, .int .u8 0, .int .u8 0, .int .u8 0, .int .u8 0, .int .u8 0, .int .u8 0, .int .u8 0, .int .u8 0, .int .u8 0, .int .u8 0, .int .u8 0, .int .u8 0, .int .u8 0, .int .u8 0, .int .u8 0, .int .u8 0, .int .u8 0, .int .u8 0, .int .u8 0, .int .u8 0, .int .u8 0, .int .u8 0, .int .u8 0, .int .u8 0, .int .u8 0, .int .u8 0, .int .u8 0, .int .u8 0, .int .u8 0, .int .u8 0]), B 13 (.alloc [.int .u8 0, .int .u8 0, .int .u8 0, .int .u8 0, .int .u8 0, .int .u8 0, .int .u8 0, .int .u8 0, .int .u8 0, .int .u8 0, .int .u8 0, .int .u8 0, .int .u8 0, .int .u8 0, .int .u8 0, .int .u8 0, .int .u8 0, .int .u8 0, .int .u8 0, .int .u8 0, .int .u8 0, .int .u8 0, .int .u8 0, .int .u8 0, .int .u8 0, .int .u8 0, .int .u8 0, .int .u8 0, .int .u8 0, .int .u8 0, .int .u8 0, .int .u8 0]), Bn (.store 32 (.t 12) (.t 35)), Bn (.store 32 (.t 13) (.t 36))] [8, 9, 11, 12, 13])
  (.seq (.reg [B 37 (.mv (.t 11)), B 38 (.nilck (.t 37)), B 39 (.fadr 1 (.t 38)), B 40 (.load false 1 (.t 39)), B 41 (.mv (.t 40)), Bg 42 (.mv (.t 11)) 41 true, Bg 43 (.nilck (.t 42)) 41 true, Bg 44 (.fadr 0 (.t 43)) 41 true, Bg 45 (.load false 1 (.t 44)) 41 true, Bg 46 (.len (.t 45)) 41 true, Bg 47 (.bin .eq (.t 46) (.k (.c (.int .i64 0)))) 41 true, B 48 (.pick (.t 41) (.t 47) (.k (.c (.bool false)))), B 49 (.mv (.t 48)), Bg 50 (.load true 32 (.t 12)) 49 true, Bg 51 (.load true 32 (.t 8)) 49 true, Bg 52 (.aeq false (true, [.i .u8, .i .u8, .i .u8, .i .u8, .i .u8, .i .u8, .i .u8, .i .u8, .i .u8, .i .u8, .i .u8, .i .u8, .i .u8, .i .u8, .i .u8, .i .u8, .i .u8, .i .u8, .i .u8, .i .u8, .i .u8, .i .u8, .i .u8, .i .u8, .i .u8, .i .u8, .i .u8, .i .u8, .i .u8, .i .u8, .i .u8, .i .u8]) (.t 50) (.t 51)) 49 true, B 53 (.pick (.t 49) (.t 52) (.k (.c (.bool false)))), B 54 (.mv (.t 53)), Bg 55 (.load true 32 (.t 13)) 54 true, Bg 56 (.load true 32 (.t 9)) 54 true, Bg 57 (.aeq false (true, [.i .u8, .i .u8, .i .u8, .i .u8, .i .u8, .i .u8, .i .u8, .i .u8, .i .u8, .i .u8, .i .u8, .i .u8, .i .u8, .i .u8, .i .u8, .i .u8, .i .u8, .i .u8, .i .u8, .i .u8, .i .u8, .i .u8, .i .u8, .i .u8, .i .u8, .i .u8, .i .u8, .i .u8, .i .u8, .i .u8, .i .u8, .i .u8]) (.t 55) (.t 56)) 54 true, B 58 (.pick (.t 54) (.t 57) (.k (.c (.bool false)))), B 10 (.asg (.t 58))] [10])
  .ret)))))
def r344 : List ARes := [.tmp 10]
theorem k344 : bChk Tryz.prog 344 Tryz.f344 5 c344 r344 = true := by kernel_rfl
theorem p344 : Tryz.prog.funcs[344]? = some Tryz.f344 := by kernel_rfl

/-- (*scrivener/merkle.taker).both -/
def c380 : BCode :=
  (.seq (.reg [B 9 (.box (.t 4)), B 10 (.alloc [.int .u8 0, .int .u8 0, .int .u8 0, .int .u8 0, .int .u8 0, .int .u8 0, .int .u8 0, .int .u8 0, .int .u8 0, .int .u8 0, .int .u8 0, .int .u8 0, .int .u8 0, .int .u8 0, .int .u8 0, .int .u8 0, .int .u8 0, .int .u8 0, .int .u8 0, .int .u8 0, .int .u8 0, .int .u8 0, .int .u8 0, .int .u8 0, .int .u8 0, .int .u8 0, .int .u8 0, .int .u8 0, .int .u8 0, .int .u8 0, .int .u8 0, .int .u8 0]), B 11 (.alloc [.int .u8 0, .int .u8 0, .int .u8 0, .int .u8 0, .int .u8 0, .int .u8 0, .int .u8 0, .int .u8 0, .int .u8 0, .int .u8 0, .int .u8 0, .int .u8 0, .int .u8 0, .int .u8 0, .int .u8 0, .int .u8 0, .int .u8 0, .int .u8 0, .int .u8 0, .int .u8 0, .int .u8 0, .int .u8 0, .int .u8 0, .int .u8 0, .int .u8 0, .int .u8 0, .int .u8 0, .int .u8 0, .int .u8 0, .int .u8 0, .int .u8 0, .int .u8 0])] [0, 1, 2, 3, 9, 10, 11])
  (.seq (.seq (.reg [B 14 (.mv (.t 1)), B 15 (.mv (.t 2)), B 16 (.bin .eq (.t 14) (.t 15))] [0, 1, 2, 3, 9, 10, 11, 16])
  (.cond (.t 16) (.seq (.seq (.reg [B 17 (.mv (.t 3)), B 18 (.not (.t 17))] [0, 9, 10, 11, 18])
  (.cond (.t 18) (.reg [B 19 (.mv (.t 0)), B 20 (.call 412 [(.t 19)]), Bn (.store 32 (.t 9) (.t 20))] [9, 10, 11])
  .skip))
  (.seq (.regd [Oo 21 (.load true 32 (.t 9)), Oo 22 (.load true 32 (.t 9)), On (.store 32 (.t 10) (.t 21)), On (.store 32 (.t 11) (.t 22))]
    (.fl 0 (.fl 1 (.ch 2 [1] (.ch 3 [] .done)))) [10, 11])
  .ret))
  .skip))
  (.seq (.reg [B 23 (.mv (.t 2)), B 24 (.call 413 [(.t 23)]), B 12 (.asg (.t 24))] [0, 1, 2, 3, 9, 10, 11, 12])
  (.seq (.seq (.reg [B 25 (.mv (.t 1)), B 26 (.mv (.t 12)), B 27 (.bin .le (.t 25) (.t 26))] [0, 1, 2, 3, 9, 10, 11, 12, 27])
  (.cond (.t 27) (.seq (.reg [B 29 (.mv (.t 0)), B 30 (.mv (.t 1)), B 31 (.mv (.t 12)), B 32 (.mv (.t 3)), B 33 (.load true 32 (.t 9)), B 34 (.call 380 [(.t 29), (.t 30), (.t 31), (.t 32), (.t 33)]), B 28 (.mv (.t 34)), B 35 (.extract 0 (.t 28)), B 36 (.extract 1 (.t 28)), Bn (.store 32 (.t 10) (.t 35)), Bn (.store 32 (.t 11) (.t 36))] [0, 10, 11])
  (.seq (.regd [Oo 37 (.load true 32 (.t 10)), Oo 38 (.load true 32 (.t 11)), Oo 39 (.mv (.t 0)), Oo 40 (.call 412 [(.t 39)]), Oo 41 (.call 414 [(.t 38), (.t 40)]), On (.store 32 (.t 10) (.t 37)), On (.store 32 (.t 11) (.t 41))]
    (.fl 0 (.fl 1 (.fl 2 (.ch 3 [0, 1] (.ch 4 [0] (.ch 5 [] (.ch 6 [] .done))))))) [10, 11])
  .ret))
  .skip))
  (.seq (.reg [B 43 (.mv (.t 0)), B 44 (.mv (.t 1)), B 45 (.mv (.t 12)), B 46 (.bin .sub (.t 44) (.t 45)), B 47 (.mv (.t 2)), B 48 (.mv (.t 12)), B 49 (.bin .sub (.t 47) (.t 48)), B 50 (.load true 32 (.t 9)), B 51 (.call 380 [(.t 43), (.t 46), (.t 49), (.k (.c (.bool false))), (.t 50)]), B 42 (.mv (.t 51)), B 52 (.extract 0 (.t 42)), B 53 (.extract 1 (.t 42)), Bn (.store 32 (.t 10) (.t 52)), Bn (.store 32 (.t 11) (.t 53))] [0, 10, 11])
  (.seq (.reg [B 54 (.mv (.t 0)), B 55 (.call 412 [(.t 54)]), B 13 (.alloc [.int .u8 0, .int .u8 0, .int .u8 0, .int .u8 0, .int .u8 0, .int .u8 0, .int .u8 0, .int .u8 0, .int .u8 0, .int .u8 0, .int .u8 0, .int .u8 0, .int .u8 0, .int .u8 0, .int .u8 0, .int .u8 0, .int .u8 0, .int .u8 0, .int .u8 0, .int .u8 0, .int .u8 0, .int .u8 0, .int .u8 0, .int .u8 0, .int .u8 0, .int .u8 0, .int .u8 0, .int .u8 0, .int .u8 0, .int .u8 0, .int .u8 0, .int .u8 0]), Bn (.store 32 (.t 13) (.t 55))] [10, 11, 13])
  (.seq (.regd [Oo 56 (.load true 32 (.t 13)), Oo 57 (.load true 32 (.t 10)), Oo 58 (.call 414 [(.t 56), (.t 57)]), Oo 59 (.load true 32 (.t 13)), Oo 60 (.load true 32 (.t 11)), Oo 61 (.call 414 [(.t 59), (.t 60)]), On (.store 32 (.t 10) (.t 58)), On (.store 32 (.t 11) (.t 61))]
    (.fl 0 (.fl 1 (.fl 3 (.fl 4 (.ch 2 [3, 4] (.ch 5 [] (.ch 6 [] (.ch 7 [] .done)))))))) [10, 11])
  .ret)))))))
def r380 : List ARes := [.cell 10 true 32, .cell 11 true 32]
theorem k380 : bChk Tryz.prog 380 Tryz.f380 5 c380 r380 = true := by kernel_rfl
theorem p380 : Tryz.prog.funcs[380]? = some Tryz.f380 := by kernel_rfl

/-- (*scrivener/merkle.taker).next -/
def c412 : BCode :=
  (.seq (.reg [B 2 (.alloc [.int .u8 0, .int .u8 0, .int .u8 0, .int .u8 0, .int .u8 0, .int .u8 0, .int .u8 0, .int .u8 0, .int .u8 0, .int .u8 0, .int .u8 0, .int .u8 0, .int .u8 0, .int .u8 0, .int .u8 0, .int .u8 0, .int .u8 0, .int .u8 0, .int .u8 0, .int .u8 0, .int .u8 0, .int .u8 0, .int .u8 0, .int .u8 0, .int .u8 0, .int .u8 0, .int .u8 0, .int .u8 0, .int .u8 0, .int .u8 0, .int .u8 0, .int .u8 0])] [0, 2])
  (.seq (.seq (.reg [B 4 (.mv (.t 0)), B 5 (.nilck (.t 4)), B 6 (.fadr 0 (.t 5)), B 7 (.load false 1 (.t 6)), B 8 (.len (.t 7)), B 9 (.bin .eq (.t 8) (.k (.c (.int .i64 0))))] [0, 2, 9])
  (.cond (.t 9) (.seq (.reg [B 10 (.mv (.t 0)), B 11 (.nilck (.t 10)), B 12 (.fadr 1 (.t 11)), Bn (.store 1 (.t 12) (.k (.c (.bool false))))] [2])
  (.seq (.reg [B 13 (.build [.int .u8 0, .int .u8 0, .int .u8 0, .int .u8 0, .int .u8 0, .int .u8 0, .int .u8 0, .int .u8 0, .int .u8 0, .int .u8 0, .int .u8 0, .int .u8 0, .int .u8 0, .int .u8 0, .int .u8 0, .int .u8 0, .int .u8 0, .int .u8 0, .int .u8 0, .int .u8 0, .int .u8 0, .int .u8 0, .int .u8 0, .int .u8 0, .int .u8 0, .int .u8 0, .int .u8 0, .int .u8 0, .int .u8 0, .int .u8 0, .int .u8 0, .int .u8 0] []), Bn (.store 32 (.t 2) (.t 13))] [2])
  .ret))
  .skip))
  (.seq (.reg [B 14 (.mv (.t 0)), B 15 (.nilck (.t 14)), B 16 (.fadr 0 (.t 15)), B 17 (.load false 1 (.t 16)), B 18 (.iadr 32 (.t 17) (.k (.c (.int .i64 0)))), B 19 (.load true 32 (.t 18)), B 3 (.alloc [.int .u8 0, .int .u8 0, .int .u8 0, .int .u8 0, .int .u8 0, .int .u8 0, .int .u8 0, .int .u8 0, .int .u8 0, .int .u8 0, .int .u8 0, .int .u8 0, .int .u8 0, .int .u8 0, .int .u8 0, .int .u8 0, .int .u8 0, .int .u8 0, .int .u8 0, .int .u8 0, .int .u8 0, .int .u8 0, .int .u8 0, .int .u8 0, .int .u8 0, .int .u8 0, .int .u8 0, .int .u8 0, .int .u8 0, .int .u8 0, .int .u8 0, .int .u8 0]), Bn (.store 32 (.t 3) (.t 19))] [0, 2, 3])
  (.seq (.reg [B 20 (.mv (.t 0)), B 21 (.mv (.t 0)), B 22 (.nilck (.t 21)), B 23 (.fadr 0 (.t 22)), B 24 (.load false 1 (.t 23)), B 25 (.slice 32 (.t 24) (some (.k (.c (.int .i64 1)))) none none), B 26 (.nilck (.t 20)), B 27 (.fadr 0 (.t 26)), Bn (.store 1 (.t 27) (.t 25))] [2, 3])
  (.seq (.reg [B 28 (.load true 32 (.t 3)), Bn (.store 32 (.t 2) (.t 28))] [2])
  .ret)))))
def r412 : List ARes := [.cell 2 true 32]
theorem k412 : bChk Tryz.prog 412 Tryz.f412 1 c412 r412 = true := by kernel_rfl
theorem p412 : Tryz.prog.funcs[412]? = some Tryz.f412 := by kernel_rfl

/-- scrivener/merkle.half -/
def c413 : BCode :=
  (.seq (.reg [B 2 (.asg (.k (.c (.int .i64 0))))] [0])
  (.seq (.reg [B 3 (.mv (.t 0)), B 4 (.bin .sub (.t 3) (.k (.c (.int .i64 1)))), B 5 (.conv .u64 (.t 4)), B 6 (.call 421 [(.t 5)]), B 7 (.bin .sub (.t 6) (.k (.c (.int .i64 1)))), B 8 (.bin .shl (.k (.c (.int .i64 1))) (.t 7)), B 2 (.asg (.t 8))] [2])
  .ret))
def r413 : List ARes := [.tmp 2]
theorem k413 : bChk Tryz.prog 413 Tryz.f413 1 c413 r413 = true := by kernel_rfl
theorem p413 : Tryz.prog.funcs[413]? = some Tryz.f413 := by kernel_rfl

/-- scrivener/digest.Node -/
def c414 : BCode :=
  (.seq (.reg [B 2 (.boxR (.t 0)), B 3 (.boxR (.t 1)), B 4 (.alloc [.int .u8 0, .int .u8 0, .int .u8 0, .int .u8 0, .int .u8 0, .int .u8 0, .int .u8 0, .int .u8 0, .int .u8 0, .int .u8 0, .int .u8 0, .int .u8 0, .int .u8 0, .int .u8 0, .int .u8 0, .int .u8 0, .int .u8 0, .int .u8 0, .int .u8 0, .int .u8 0, .int .u8 0, .int .u8 0, .int .u8 0, .int .u8 0, .int .u8 0, .int .u8 0, .int .u8 0, .int .u8 0, .int .u8 0, .int .u8 0, .int .u8 0, .int .u8 0])] [2, 3, 4])
  (.seq (.regd [Oo 5 (.slR 1 1 [.int .u8 0] [(0, 1, (.k (.c (.int .u8 1))))]), Oo 6 (.aslice 1 32 (.t 2)), Oo 7 (.app 1 1 (.t 5) (.t 6)), Oo 8 (.aslice 1 32 (.t 3)), Oo 9 (.app 1 1 (.t 7) (.t 8)), Oo 10 (.call 166 [(.t 9)]), On (.store 32 (.t 4) (.t 10))]
    (.fl 0 (.fl 1 (.fl 3 (.ch 2 [] (.ch 4 [] (.ch 5 [] (.ch 6 [] .done))))))) [4])
  .ret))
def r414 : List ARes := [.cell 4 true 32]
theorem k414 : bChk Tryz.prog 414 Tryz.f414 2 c414 r414 = true := by kernel_rfl
theorem p414 : Tryz.prog.funcs[414]? = some Tryz.f414 := by kernel_rfl

/-- math/bits.Len64 -/
def c421 : BCode :=
  (.seq (.reg [B 2 (.asg (.k (.c (.int .i64 0))))] [0, 2])
  (.seq (.seq (.reg [B 3 (.mv (.t 0)), B 4 (.bin .ge (.t 3) (.k (.c (.int .u64 4294967296))))] [0, 2, 4])
  (.cond (.t 4) (.seq (.reg [B 5 (.mv (.t 0)), B 6 (.bin .shr (.t 5) (.k (.c (.int .u64 32)))), B 0 (.asg (.t 6))] [0])
  (.reg [B 2 (.asg (.k (.c (.int .i64 32))))] [0, 2]))
  .skip))
  (.seq (.seq (.reg [B 7 (.mv (.t 0)), B 8 (.bin .ge (.t 7) (.k (.c (.int .u64 65536))))] [0, 2, 8])
  (.cond (.t 8) (.seq (.reg [B 9 (.mv (.t 0)), B 10 (.bin .shr (.t 9) (.k (.c (.int .u64 16)))), B 0 (.asg (.t 10))] [0, 2])
  (.reg [B 11 (.mv (.t 2)), B 12 (.bin .add (.t 11) (.k (.c (.int .i64 16)))), B 2 (.asg (.t 12))] [0, 2]))
  .skip))
  (.seq (.seq (.reg [B 13 (.mv (.t 0)), B 14 (.bin .ge (.t 13) (.k (.c (.int .u64 256))))] [0, 2, 14])
  (.cond (.t 14) (.seq (.reg [B 15 (.mv (.t 0)), B 16 (.bin .shr (.t 15) (.k (.c (.int .u64 8)))), B 0 (.asg (.t 16))] [0, 2])
  (.reg [B 17 (.mv (.t 2)), B 18 (.bin .add (.t 17) (.k (.c (.int .i64 8)))), B 2 (.asg (.t 18))] [0, 2]))
  .skip))
  (.seq (.reg [B 19 (.mv (.t 2)), B 20 (.mv (.t 0)), B 21 (.conv .u8 (.t 20)), B 22 (.sidx (.k (.c (.str [0, 1, 2, 2, 3, 3, 3, 3, 4, 4, 4, 4, 4, 4, 4, 4, 5, 5, 5, 5, 5, 5, 5, 5, 5, 5, 5, 5, 5, 5, 5, 5, 6, 6, 6, 6, 6, 6, 6, 6, 6, 6, 6, 6, 6, 6, 6, 6, 6, 6, 6, 6, 6, 6, 6, 6, 6, 6, 6, 6, 6, 6, 6, 6, 7, 7, 7, 7, 7, 7, 7, 7, 7, 7, 7, 7, 7, 7, 7, 7, 7, 7, 7, 7, 7, 7, 7, 7, 7, 7, 7, 7, 7, 7, 7, 7, 7, 7, 7, 7, 7, 7, 7, 7, 7, 7, 7, 7, 7, 7, 7, 7, 7, 7, 7, 7, 7, 7, 7, 7, 7, 7, 7, 7, 7, 7, 7, 7, 8, 8, 8, 8, 8, 8, 8, 8, 8, 8, 8, 8, 8, 8, 8, 8, 8, 8, 8, 8, 8, 8, 8, 8, 8, 8, 8, 8, 8, 8, 8, 8, 8, 8, 8, 8, 8, 8, 8, 8, 8, 8, 8, 8, 8, 8, 8, 8, 8, 8, 8, 8, 8, 8, 8, 8, 8, 8, 8, 8, 8, 8, 8, 8, 8, 8, 8, 8, 8, 8, 8, 8, 8, 8, 8, 8, 8, 8, 8, 8, 8, 8, 8, 8, 8, 8, 8, 8, 8, 8, 8, 8, 8, 8, 8, 8, 8, 8, 8, 8, 8, 8, 8, 8, 8, 8, 8, 8, 8, 8, 8, 8, 8, 8, 8, 8, 8, 8, 8, 8, 8, 8, 8, 8, 8, 8, 8, 8]))) (.t 21)), B 23 (.conv .i64 (.t 22)), B 24 (.bin .add (.t 19) (.t 23)), B 2 (.asg (.t 24))] [2])
  .ret)))))
def r421 : List ARes := [.tmp 2]
theorem k421 : bChk Tryz.prog 421 Tryz.f421 1 c421 r421 = true := by kernel_rfl
theorem p421 : Tryz.prog.funcs[421]? = some Tryz.f421 := by kernel_rfl

def tab : Tab := (.node 152 c152 r152 2 false (.node 69 c69 r69 2 false (.node 40 c40 r40 1 false (.node 24 c24 r24 2 false (.node 17 c17 r17 2 false (.node 11 c11 r11 0 false (.node 10 c10 r10 1 false (.node 5 c5 r5 2 false .leaf .leaf) .leaf) (.node 13 c13 r13 2 false (.node 12 c12 r12 2 false .leaf .leaf) .leaf)) (.node 20 c20 r20 2 false (.node 19 c19 r19 1 false (.node 18 c18 r18 1 false .leaf .leaf) .leaf) (.node 22 c22 r22 1 false (.node 21 c21 r21 1 false .leaf .leaf) .leaf))) (.node 31 c31 r31 1 false (.node 27 c27 r27 2 false (.node 26 c26 r26 1 false (.node 25 c25 r25 2 false .leaf .leaf) .leaf) (.node 29 c29 r29 1 false (.node 28 c28 r28 1 false .leaf .leaf) .leaf)) (.node 37 c37 r37 1 false (.node 36 c36 r36 1 false (.node 34 c34 r34 1 false .leaf .leaf) .leaf) (.node 39 c39 r39 2 false (.node 38 c38 r38 1 false .leaf .leaf) .leaf)))) (.node 57 c57 r57 1 false (.node 51 c51 r51 2 false (.node 43 c43 r43 2 false (.node 42 c42 r42 4 false (.node 41 c41 r41 1 false .leaf .leaf) .leaf) (.node 45 c45 r45 2 false (.node 44 c44 r44 2 false .leaf .leaf) .leaf)) (.node 54 c54 r54 2 false (.node 53 c53 r53 2 false (.node 52 c52 r52 4 false .leaf .leaf) .leaf) (.node 56 c56 r56 1 false (.node 55 c55 r55 1 false .leaf .leaf) .leaf))) (.node 63 c63 r63 1 false (.node 60 c60 r60 1 false (.node 59 c59 r59 1 false (.node 58 c58 r58 1 false .leaf .leaf) .leaf) (.node 62 c62 r62 1 false (.node 61 c61 r61 1 false .leaf .leaf) .leaf)) (.node 66 c66 r66 2 false (.node 65 c65 r65 1 false (.node 64 c64 r64 2 false .leaf .leaf) .leaf) (.node 68 c68 r68 3 false (.node 67 c67 r67 2 false .leaf .leaf) .leaf))))) (.node 105 c105 r105 2 false (.node 93 c93 r93 3 false (.node 75 c75 r75 1 false (.node 72 c72 r72 1 false (.node 71 c71 r71 1 false (.node 70 c70 r70 2 false .leaf .leaf) .leaf) (.node 74 c74 r74 1 false (.node 73 c73 r73 1 false .leaf .leaf) .leaf)) (.node 90 c90 r90 1 false (.node 89 c89 r89 0 false (.node 88 c88 r88 1 false .leaf .leaf) .leaf) (.node 92 c92 r92 1 false (.node 91 c91 r91 2 false .leaf .leaf) .leaf))) (.node 99 c99 r99 1 false (.node 96 c96 r96 1 false (.node 95 c95 r95 3 false (.node 94 c94 r94 1 false .leaf .leaf) .leaf) (.node 98 c98 r98 1 false (.node 97 c97 r97 1 false .leaf .leaf) .leaf)) (.node 102 c102 r102 1 false (.node 101 c101 r101 1 false (.node 100 c100 r100 1 false .leaf .leaf) .leaf) (.node 104 c104 r104 1 false (.node 103 c103 r103 1 false .leaf .leaf) .leaf)))) (.node 118 c118 r118 2 false (.node 111 c111 r111 2 false (.node 108 c108 r108 1 false (.node 107 c107 r107 1 false (.node 106 c106 r106 2 false .leaf .leaf) .leaf) (.node 110 c110 r110 1 false (.node 109 c109 r109 1 false .leaf .leaf) .leaf)) (.node 114 c114 r114 1 false (.node 113 c113 r113 1 false (.node 112 c112 r112 1 false .leaf .leaf) .leaf) (.node 116 c116 r116 2 false (.node 115 c115 r115 1 false .leaf .leaf) .leaf))) (.node 146 c146 r146 1 false (.node 143 c143 r143 3 false (.node 142 c142 r142 1 false (.node 141 c141 r141 2 false .leaf .leaf) .leaf) (.node 145 c145 r145 2 false (.node 144 c144 r144 2 false .leaf .leaf) .leaf)) (.node 149 c149 r149 3 false (.node 148 c148 r148 1 false (.node 147 c147 r147 1 false .leaf .leaf) .leaf) (.node 151 c151 r151 2 false (.node 150 c150 r150 1 false .leaf .leaf) .leaf)))))) (.node 216 c216 r216 2 false (.node 189 c189 r189 1 false (.node 164 c164 r164 1 false (.node 158 c158 r158 2 false (.node 155 c155 r155 1 false (.node 154 c154 r154 1 false (.node 153 c153 r153 1 false .leaf .leaf) .leaf) (.node 157 c157 r157 1 false (.node 156 c156 r156 2 false .leaf .leaf) .leaf)) (.node 161 c161 r161 1 false (.node 160 c160 r160 2 false (.node 159 c159 r159 2 false .leaf .leaf) .leaf) (.node 163 c163 r163 1 false (.node 162 c162 r162 1 false .leaf .leaf) .leaf))) (.node 170 c170 r170 1 false (.node 167 c167 r167 2 false (.node 166 c166 r166 1 false (.node 165 c165 r165 2 false .leaf .leaf) .leaf) (.node 169 c169 r169 1 false (.node 168 c168 r168 2 false .leaf .leaf) .leaf)) (.node 173 c173 r173 1 false (.node 172 c172 r172 1 false (.node 171 c171 r171 1 false .leaf .leaf) .leaf) (.node 188 c188 r188 1 false (.node 185 c185 r185 1 false .leaf .leaf) .leaf)))) (.node 204 c204 r204 2 false (.node 198 c198 r198 1 false (.node 195 c195 r195 1 false (.node 194 c194 r194 1 false (.node 193 c193 r193 1 false .leaf .leaf) .leaf) (.node 197 c197 r197 2 false (.node 196 c196 r196 1 false .leaf .leaf) .leaf)) (.node 201 c201 r201 3 false (.node 200 c200 r200 3 false (.node 199 c199 r199 3 false .leaf .leaf) .leaf) (.node 203 c203 r203 1 false (.node 202 c202 r202 3 false .leaf .leaf) .leaf))) (.node 210 c210 r210 2 false (.node 207 c207 r207 2 false (.node 206 c206 r206 2 false (.node 205 c205 r205 2 false .leaf .leaf) .leaf) (.node 209 c209 r209 2 false (.node 208 c208 r208 3 false .leaf .leaf) .leaf)) (.node 213 c213 r213 0 false (.node 212 c212 r212 2 false (.node 211 c211 r211 2 false .leaf .leaf) .leaf) (.node 215 c215 r215 2 false (.node 214 c214 r214 3 false .leaf .leaf) .leaf))))) (.node 260 c260 r260 1 false (.node 248 c248 r248 1 false (.node 236 c236 r236 2 false (.node 219 c219 r219 0 false (.node 218 c218 r218 3 false (.node 217 c217 r217 2 false .leaf .leaf) .leaf) (.node 221 c221 r221 2 false (.node 220 c220 r220 3 false .leaf .leaf) .leaf)) (.node 244 c244 r244 1 false (.node 242 c242 r242 2 false (.node 241 c241 r241 1 false .leaf .leaf) .leaf) (.node 246 c246 r246 1 false (.node 245 c245 r245 1 false .leaf .leaf) .leaf))) (.node 254 c254 r254 1 false (.node 251 c251 r251 2 false (.node 250 c250 r250 1 false (.node 249 c249 r249 1 false .leaf .leaf) .leaf) (.node 253 c253 r253 1 false (.node 252 c252 r252 1 false .leaf .leaf) .leaf)) (.node 257 c257 r257 1 false (.node 256 c256 r256 1 false (.node 255 c255 r255 3 false .leaf .leaf) .leaf) (.node 259 c259 r259 3 false (.node 258 c258 r258 2 false .leaf .leaf) .leaf)))) (.node 306 c306 r306 2 false (.node 266 c266 r266 2 false (.node 263 c263 r263 1 false (.node 262 c262 r262 1 false (.node 261 c261 r261 1 false .leaf .leaf) .leaf) (.node 265 c265 r265 1 false (.node 264 c264 r264 1 false .leaf .leaf) .leaf)) (.node 269 c269 r269 2 false (.node 268 c268 r268 2 false (.node 267 c267 r267 2 false .leaf .leaf) .leaf) (.node 305 c305 r305 2 false (.node 304 c304 r304 1 false .leaf .leaf) .leaf))) (.node 344 c344 r344 5 false (.node 309 c309 r309 1 false (.node 308 c308 r308 1 false (.node 307 c307 r307 1 false .leaf .leaf) .leaf) (.node 343 c343 r343 1 false (.node 310 c310 r310 3 false .leaf .leaf) .leaf)) (.node 413 c413 r413 1 false (.node 412 c412 r412 1 false (.node 380 c380 r380 5 false .leaf .leaf) .leaf) (.node 421 c421 r421 1 false (.node 414 c414 r414 2 false .leaf .leaf) .leaf)))))))
theorem tabOk : TabOk Tryz.prog tab := ⟨⟨⟨_, p152, k152⟩, by kernel_rfl⟩, ⟨⟨⟨_, p69, k69⟩, by kernel_rfl⟩, ⟨⟨⟨_, p40, k40⟩, by kernel_rfl⟩, ⟨⟨⟨_, p24, k24⟩, by kernel_rfl⟩, ⟨⟨⟨_, p17, k17⟩, by kernel_rfl⟩, ⟨⟨⟨_, p11, k11⟩, by kernel_rfl⟩, ⟨⟨⟨_, p10, k10⟩, by kernel_rfl⟩, ⟨⟨⟨_, p5, k5⟩, by kernel_rfl⟩, trivial, trivial⟩, trivial⟩, ⟨⟨⟨_, p13, k13⟩, by kernel_rfl⟩, ⟨⟨⟨_, p12, k12⟩, by kernel_rfl⟩, trivial, trivial⟩, trivial⟩⟩, ⟨⟨⟨_, p20, k20⟩, by kernel_rfl⟩, ⟨⟨⟨_, p19, k19⟩, by kernel_rfl⟩, ⟨⟨⟨_, p18, k18⟩, by kernel_rfl⟩, trivial, trivial⟩, trivial⟩, ⟨⟨⟨_, p22, k22⟩, by kernel_rfl⟩, ⟨⟨⟨_, p21, k21⟩, by kernel_rfl⟩, trivial, trivial⟩, trivial⟩⟩⟩, ⟨⟨⟨_, p31, k31⟩, by kernel_rfl⟩, ⟨⟨⟨_, p27, k27⟩, by kernel_rfl⟩, ⟨⟨⟨_, p26, k26⟩, by kernel_rfl⟩, ⟨⟨⟨_, p25, k25⟩, by kernel_rfl⟩, trivial, trivial⟩, trivial⟩, ⟨⟨⟨_, p29, k29⟩, by kernel_rfl⟩, ⟨⟨⟨_, p28, k28⟩, by kernel_rfl⟩, trivial, trivial⟩, trivial⟩⟩, ⟨⟨⟨_, p37, k37⟩, by kernel_rfl⟩, ⟨⟨⟨_, p36, k36⟩, by kernel_rfl⟩, ⟨⟨⟨_, p34, k34⟩, by kernel_rfl⟩, trivial, trivial⟩, trivial⟩, ⟨⟨⟨_, p39, k39⟩, by kernel_rfl⟩, ⟨⟨⟨_, p38, k38⟩, by kernel_rfl⟩, trivial, trivial⟩, trivial⟩⟩⟩⟩, ⟨⟨⟨_, p57, k57⟩, by kernel_rfl⟩, ⟨⟨⟨_, p51, k51⟩, by kernel_rfl⟩, ⟨⟨⟨_, p43, k43⟩, by kernel_rfl⟩, ⟨⟨⟨_, p42, k42⟩, by kernel_rfl⟩, ⟨⟨⟨_, p41, k41⟩, by kernel_rfl⟩, trivial, trivial⟩, trivial⟩, ⟨⟨⟨_, p45, k45⟩, by kernel_rfl⟩, ⟨⟨⟨_, p44, k44⟩, by kernel_rfl⟩, trivial, trivial⟩, trivial⟩⟩, ⟨⟨⟨_, p54, k54⟩, by kernel_rfl⟩, ⟨⟨⟨_, p53, k53⟩, by kernel_rfl⟩, ⟨⟨⟨_, p52, k52⟩, by kernel_rfl⟩, trivial, trivial⟩, trivial⟩, ⟨⟨⟨_, p56, k56⟩, by kernel_rfl⟩, ⟨⟨⟨_, p55, k55⟩, by kernel_rfl⟩, trivial, trivial⟩, trivial⟩⟩⟩, ⟨⟨⟨_, p63, k63⟩, by kernel_rfl⟩, ⟨⟨⟨_, p60, k60⟩, by kernel_rfl⟩, ⟨⟨⟨_, p59, k59⟩, by kernel_rfl⟩, ⟨⟨⟨_, p58, k58⟩, by kernel_rfl⟩, trivial, trivial⟩, trivial⟩, ⟨⟨⟨_, p62, k62⟩, by kernel_rfl⟩, ⟨⟨⟨_, p61, k61⟩, by kernel_rfl⟩, trivial, trivial⟩, trivial⟩⟩, ⟨⟨⟨_, p66, k66⟩, by kernel_rfl⟩, ⟨⟨⟨_, p65, k65⟩, by kernel_rfl⟩, ⟨⟨⟨_, p64, k64⟩, by kernel_rfl⟩, trivial, trivial⟩, trivial⟩, ⟨⟨⟨_, p68, k68⟩, by kernel_rfl⟩, ⟨⟨⟨_, p67, k67⟩, by kernel_rfl⟩, trivial, trivial⟩, trivial⟩⟩⟩⟩⟩, ⟨⟨⟨_, p105, k105⟩, by kernel_rfl⟩, ⟨⟨⟨_, p93, k93⟩, by kernel_rfl⟩, ⟨⟨⟨_, p75, k75⟩, by kernel_rfl⟩, ⟨⟨⟨_, p72, k72⟩, by kernel_rfl⟩, ⟨⟨⟨_, p71, k71⟩, by kernel_rfl⟩, ⟨⟨⟨_, p70, k70⟩, by kernel_rfl⟩, trivial, trivial⟩, trivial⟩, ⟨⟨⟨_, p74, k74⟩, by kernel_rfl⟩, ⟨⟨⟨_, p73, k73⟩, by kernel_rfl⟩, trivial, trivial⟩, trivial⟩⟩, ⟨⟨⟨_, p90, k90⟩, by kernel_rfl⟩, ⟨⟨⟨_, p89, k89⟩, by kernel_rfl⟩, ⟨⟨⟨_, p88, k88⟩, by kernel_rfl⟩, trivial, trivial⟩, trivial⟩, ⟨⟨⟨_, p92, k92⟩, by kernel_rfl⟩, ⟨⟨⟨_, p91, k91⟩, by kernel_rfl⟩, trivial, trivial⟩, trivial⟩⟩⟩, ⟨⟨⟨_, p99, k99⟩, by kernel_rfl⟩, ⟨⟨⟨_, p96, k96⟩, by kernel_rfl⟩, ⟨⟨⟨_, p95, k95⟩, by kernel_rfl⟩, ⟨⟨⟨_, p94, k94⟩, by kernel_rfl⟩, trivial, trivial⟩, trivial⟩, ⟨⟨⟨_, p98, k98⟩, by kernel_rfl⟩, ⟨⟨⟨_, p97, k97⟩, by kernel_rfl⟩, trivial, trivial⟩, trivial⟩⟩, ⟨⟨⟨_, p102, k102⟩, by kernel_rfl⟩, ⟨⟨⟨_, p101, k101⟩, by kernel_rfl⟩, ⟨⟨⟨_, p100, k100⟩, by kernel_rfl⟩, trivial, trivial⟩, trivial⟩, ⟨⟨⟨_, p104, k104⟩, by kernel_rfl⟩, ⟨⟨⟨_, p103, k103⟩, by kernel_rfl⟩, trivial, trivial⟩, trivial⟩⟩⟩⟩, ⟨⟨⟨_, p118, k118⟩, by kernel_rfl⟩, ⟨⟨⟨_, p111, k111⟩, by kernel_rfl⟩, ⟨⟨⟨_, p108, k108⟩, by kernel_rfl⟩, ⟨⟨⟨_, p107, k107⟩, by kernel_rfl⟩, ⟨⟨⟨_, p106, k106⟩, by kernel_rfl⟩, trivial, trivial⟩, trivial⟩, ⟨⟨⟨_, p110, k110⟩, by kernel_rfl⟩, ⟨⟨⟨_, p109, k109⟩, by kernel_rfl⟩, trivial, trivial⟩, trivial⟩⟩, ⟨⟨⟨_, p114, k114⟩, by kernel_rfl⟩, ⟨⟨⟨_, p113, k113⟩, by kernel_rfl⟩, ⟨⟨⟨_, p112, k112⟩, by kernel_rfl⟩, trivial, trivial⟩, trivial⟩, ⟨⟨⟨_, p116, k116⟩, by kernel_rfl⟩, ⟨⟨⟨_, p115, k115⟩, by kernel_rfl⟩, trivial, trivial⟩, trivial⟩⟩⟩, ⟨⟨⟨_, p146, k146⟩, by kernel_rfl⟩, ⟨⟨⟨_, p143, k143⟩, by kernel_rfl⟩, ⟨⟨⟨_, p142, k142⟩, by kernel_rfl⟩, ⟨⟨⟨_, p141, k141⟩, by kernel_rfl⟩, trivial, trivial⟩, trivial⟩, ⟨⟨⟨_, p145, k145⟩, by kernel_rfl⟩, ⟨⟨⟨_, p144, k144⟩, by kernel_rfl⟩, trivial, trivial⟩, trivial⟩⟩, ⟨⟨⟨_, p149, k149⟩, by kernel_rfl⟩, ⟨⟨⟨_, p148, k148⟩, by kernel_rfl⟩, ⟨⟨⟨_, p147, k147⟩, by kernel_rfl⟩, trivial, trivial⟩, trivial⟩, ⟨⟨⟨_, p151, k151⟩, by kernel_rfl⟩, ⟨⟨⟨_, p150, k150⟩, by kernel_rfl⟩, trivial, trivial⟩, trivial⟩⟩⟩⟩⟩⟩, ⟨⟨⟨_, p216, k216⟩, by kernel_rfl⟩, ⟨⟨⟨_, p189, k189⟩, by kernel_rfl⟩, ⟨⟨⟨_, p164, k164⟩, by kernel_rfl⟩, ⟨⟨⟨_, p158, k158⟩, by kernel_rfl⟩, ⟨⟨⟨_, p155, k155⟩, by kernel_rfl⟩, ⟨⟨⟨_, p154, k154⟩, by kernel_rfl⟩, ⟨⟨⟨_, p153, k153⟩, by kernel_rfl⟩, trivial, trivial⟩, trivial⟩, ⟨⟨⟨_, p157, k157⟩, by kernel_rfl⟩, ⟨⟨⟨_, p156, k156⟩, by kernel_rfl⟩, trivial, trivial⟩, trivial⟩⟩, ⟨⟨⟨_, p161, k161⟩, by kernel_rfl⟩, ⟨⟨⟨_, p160, k160⟩, by kernel_rfl⟩, ⟨⟨⟨_, p159, k159⟩, by kernel_rfl⟩, trivial, trivial⟩, trivial⟩, ⟨⟨⟨_, p163, k163⟩, by kernel_rfl⟩, ⟨⟨⟨_, p162, k162⟩, by kernel_rfl⟩, trivial, trivial⟩, trivial⟩⟩⟩, ⟨⟨⟨_, p170, k170⟩, by kernel_rfl⟩, ⟨⟨⟨_, p167, k167⟩, by kernel_rfl⟩, ⟨⟨⟨_, p166, k166⟩, by kernel_rfl⟩, ⟨⟨⟨_, p165, k165⟩, by kernel_rfl⟩, trivial, trivial⟩, trivial⟩, ⟨⟨⟨_, p169, k169⟩, by kernel_rfl⟩, ⟨⟨⟨_, p168, k168⟩, by kernel_rfl⟩, trivial, trivial⟩, trivial⟩⟩, ⟨⟨⟨_, p173, k173⟩, by kernel_rfl⟩, ⟨⟨⟨_, p172, k172⟩, by kernel_rfl⟩, ⟨⟨⟨_, p171, k171⟩, by kernel_rfl⟩, trivial, trivial⟩, trivial⟩, ⟨⟨⟨_, p188, k188⟩, by kernel_rfl⟩, ⟨⟨⟨_, p185, k185⟩, by kernel_rfl⟩, trivial, trivial⟩, trivial⟩⟩⟩⟩, ⟨⟨⟨_, p204, k204⟩, by kernel_rfl⟩, ⟨⟨⟨_, p198, k198⟩, by kernel_rfl⟩, ⟨⟨⟨_, p195, k195⟩, by kernel_rfl⟩, ⟨⟨⟨_, p194, k194⟩, by kernel_rfl⟩, ⟨⟨⟨_, p193, k193⟩, by kernel_rfl⟩, trivial, trivial⟩, trivial⟩, ⟨⟨⟨_, p197, k197⟩, by kernel_rfl⟩, ⟨⟨⟨_, p196, k196⟩, by kernel_rfl⟩, trivial, trivial⟩, trivial⟩⟩, ⟨⟨⟨_, p201, k201⟩, by kernel_rfl⟩, ⟨⟨⟨_, p200, k200⟩, by kernel_rfl⟩, ⟨⟨⟨_, p199, k199⟩, by kernel_rfl⟩, trivial, trivial⟩, trivial⟩, ⟨⟨⟨_, p203, k203⟩, by kernel_rfl⟩, ⟨⟨⟨_, p202, k202⟩, by kernel_rfl⟩, trivial, trivial⟩, trivial⟩⟩⟩, ⟨⟨⟨_, p210, k210⟩, by kernel_rfl⟩, ⟨⟨⟨_, p207, k207⟩, by kernel_rfl⟩, ⟨⟨⟨_, p206, k206⟩, by kernel_rfl⟩, ⟨⟨⟨_, p205, k205⟩, by kernel_rfl⟩, trivial, trivial⟩, trivial⟩, ⟨⟨⟨_, p209, k209⟩, by kernel_rfl⟩, ⟨⟨⟨_, p208, k208⟩, by kernel_rfl⟩, trivial, trivial⟩, trivial⟩⟩, ⟨⟨⟨_, p213, k213⟩, by kernel_rfl⟩, ⟨⟨⟨_, p212, k212⟩, by kernel_rfl⟩, ⟨⟨⟨_, p211, k211⟩, by kernel_rfl⟩, trivial, trivial⟩, trivial⟩, ⟨⟨⟨_, p215, k215⟩, by kernel_rfl⟩, ⟨⟨⟨_, p214, k214⟩, by kernel_rfl⟩, trivial, trivial⟩, trivial⟩⟩⟩⟩⟩, ⟨⟨⟨_, p260, k260⟩, by kernel_rfl⟩, ⟨⟨⟨_, p248, k248⟩, by kernel_rfl⟩, ⟨⟨⟨_, p236, k236⟩, by kernel_rfl⟩, ⟨⟨⟨_, p219, k219⟩, by kernel_rfl⟩, ⟨⟨⟨_, p218, k218⟩, by kernel_rfl⟩, ⟨⟨⟨_, p217, k217⟩, by kernel_rfl⟩, trivial, trivial⟩, trivial⟩, ⟨⟨⟨_, p221, k221⟩, by kernel_rfl⟩, ⟨⟨⟨_, p220, k220⟩, by kernel_rfl⟩, trivial, trivial⟩, trivial⟩⟩, ⟨⟨⟨_, p244, k244⟩, by kernel_rfl⟩, ⟨⟨⟨_, p242, k242⟩, by kernel_rfl⟩, ⟨⟨⟨_, p241, k241⟩, by kernel_rfl⟩, trivial, trivial⟩, trivial⟩, ⟨⟨⟨_, p246, k246⟩, by kernel_rfl⟩, ⟨⟨⟨_, p245, k245⟩, by kernel_rfl⟩, trivial, trivial⟩, trivial⟩⟩⟩, ⟨⟨⟨_, p254, k254⟩, by kernel_rfl⟩, ⟨⟨⟨_, p251, k251⟩, by kernel_rfl⟩, ⟨⟨⟨_, p250, k250⟩, by kernel_rfl⟩, ⟨⟨⟨_, p249, k249⟩, by kernel_rfl⟩, trivial, trivial⟩, trivial⟩, ⟨⟨⟨_, p253, k253⟩, by kernel_rfl⟩, ⟨⟨⟨_, p252, k252⟩, by kernel_rfl⟩, trivial, trivial⟩, trivial⟩⟩, ⟨⟨⟨_, p257, k257⟩, by kernel_rfl⟩, ⟨⟨⟨_, p256, k256⟩, by kernel_rfl⟩, ⟨⟨⟨_, p255, k255⟩, by kernel_rfl⟩, trivial, trivial⟩, trivial⟩, ⟨⟨⟨_, p259, k259⟩, by kernel_rfl⟩, ⟨⟨⟨_, p258, k258⟩, by kernel_rfl⟩, trivial, trivial⟩, trivial⟩⟩⟩⟩, ⟨⟨⟨_, p306, k306⟩, by kernel_rfl⟩, ⟨⟨⟨_, p266, k266⟩, by kernel_rfl⟩, ⟨⟨⟨_, p263, k263⟩, by kernel_rfl⟩, ⟨⟨⟨_, p262, k262⟩, by kernel_rfl⟩, ⟨⟨⟨_, p261, k261⟩, by kernel_rfl⟩, trivial, trivial⟩, trivial⟩, ⟨⟨⟨_, p265, k265⟩, by kernel_rfl⟩, ⟨⟨⟨_, p264, k264⟩, by kernel_rfl⟩, trivial, trivial⟩, trivial⟩⟩, ⟨⟨⟨_, p269, k269⟩, by kernel_rfl⟩, ⟨⟨⟨_, p268, k268⟩, by kernel_rfl⟩, ⟨⟨⟨_, p267, k267⟩, by kernel_rfl⟩, trivial, trivial⟩, trivial⟩, ⟨⟨⟨_, p305, k305⟩, by kernel_rfl⟩, ⟨⟨⟨_, p304, k304⟩, by kernel_rfl⟩, trivial, trivial⟩, trivial⟩⟩⟩, ⟨⟨⟨_, p344, k344⟩, by kernel_rfl⟩, ⟨⟨⟨_, p309, k309⟩, by kernel_rfl⟩, ⟨⟨⟨_, p308, k308⟩, by kernel_rfl⟩, ⟨⟨⟨_, p307, k307⟩, by kernel_rfl⟩, trivial, trivial⟩, trivial⟩, ⟨⟨⟨_, p343, k343⟩, by kernel_rfl⟩, ⟨⟨⟨_, p310, k310⟩, by kernel_rfl⟩, trivial, trivial⟩, trivial⟩⟩, ⟨⟨⟨_, p413, k413⟩, by kernel_rfl⟩, ⟨⟨⟨_, p412, k412⟩, by kernel_rfl⟩, ⟨⟨⟨_, p380, k380⟩, by kernel_rfl⟩, trivial, trivial⟩, trivial⟩, ⟨⟨⟨_, p421, k421⟩, by kernel_rfl⟩, ⟨⟨⟨_, p414, k414⟩, by kernel_rfl⟩, trivial, trivial⟩, trivial⟩⟩⟩⟩⟩⟩⟩

end Go.Proofs.YtdbaldohbjnlpaaGreat
