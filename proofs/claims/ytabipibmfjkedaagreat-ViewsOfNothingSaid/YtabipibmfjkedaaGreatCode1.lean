/- The abstract code of the functions, printed by an own tool (gen.py), each checked against the program. -/
import Derived.Test.YtabipibmfjkedaaGreatProg
import Derived.Test.YtabipibmfjkedaaGreatAb31
import Derived.Test.YtabipibmfjkedaaGreatCode0
import Derived.KernelRfl
set_option maxRecDepth 100000
set_option linter.unusedVariables false
namespace Go.Proofs.YtabipibmfjkedaaGreat
open Go.Ab

/-- scrivener/scrivenerref11.Form -/
def c128 : BCode :=
  (.seq (.reg [B 1 (.boxR (.t 0)), B 2 (.asg (.k (.c (.bool false))))] [1])
  (.seq (.reg [B 6 (.fadr 1 (.t 1)), B 7 (.load false 1 (.t 6)), B 8 (.slen (.t 7)), B 9 (.call 96 [(.t 8), (.k (.c (.int .i64 1))), (.k (.c (.int .i64 40)))]), B 3 (.asg (.t 9))] [1, 3])
  (.seq (.reg [B 10 (.fadr 2 (.t 1)), B 11 (.load false 1 (.t 10)), B 12 (.call 96 [(.t 11), (.k (.c (.int .i64 1))), (.k (.c (.int .i64 64)))]), B 4 (.asg (.t 12))] [1, 3, 4])
  (.seq (.reg [B 13 (.fadr 3 (.t 1)), B 14 (.load false 1 (.t 13)), B 15 (.call 96 [(.t 14), (.k (.c (.int .i64 1))), (.k (.c (.int .i64 65536)))]), B 5 (.asg (.t 15))] [1, 3, 4, 5])
  (.seq (.seq (.reg [B 16 (.fadr 0 (.t 1)), B 17 (.load false 1 (.t 16))] [1, 3, 4, 5, 17])
  (.block 0 (.seq (.reg [B 19 (.bin .eq (.t 17) (.k (.c (.int .i64 1)))), B 18 (.asg (.t 19))] [1, 3, 4, 5, 17, 18])
  (.cond (.t 18) (.seq (.reg [B 20 (.fadr 1 (.t 1)), B 21 (.load false 1 (.t 20)), B 22 (.slen (.t 21)), B 23 (.call 96 [(.t 22), (.k (.c (.int .i64 1))), (.k (.c (.int .i64 4096)))]), B 24 (.mv (.t 23)), Bg 25 (.load true 46 (.t 1)) 24 true, Bg 26 (.fadr 0 (.t 1)) 24 true, Bg 27 (.load false 1 (.t 26)) 24 true, Bg 28 (.fadr 1 (.t 1)) 24 true, Bg 29 (.load false 1 (.t 28)) 24 true, Bg 30 (.build [.int .i64 0, .str [], .int .i64 0, .int .i64 0, .int .i64 0, .int .i64 0, .int .i64 0, .int .i64 0, .str [], .sl 1 [] .nil, .sl 6 [] .nil, .int .u8 0, .int .u8 0, .int .u8 0, .int .u8 0, .int .u8 0, .int .u8 0, .int .u8 0, .int .u8 0, .int .u8 0, .int .u8 0, .int .u8 0, .int .u8 0, .int .u8 0, .int .u8 0, .int .u8 0, .int .u8 0, .int .u8 0, .int .u8 0, .int .u8 0, .int .u8 0, .int .u8 0, .int .u8 0, .int .u8 0, .int .u8 0, .int .u8 0, .int .u8 0, .int .u8 0, .int .u8 0, .int .u8 0, .int .u8 0, .int .u8 0, .int .u8 0, .bool false, .int .i64 0, .int .i64 0] [(0, 1, (.t 27)), (1, 1, (.t 29))]) 24 true, Bg 31 (.call 161 [(.t 25), (.t 30)]) 24 true, B 32 (.pick (.t 24) (.t 31) (.k (.c (.bool false)))), B 2 (.asg (.t 32))] [2])
  .ret)
  (.seq (.reg [B 34 (.bin .eq (.t 17) (.k (.c (.int .i64 2)))), B 33 (.asg (.t 34))] [1, 3, 4, 5, 17, 33])
  (.cond (.t 33) (.seq (.seq (.reg [B 35 (.fadr 43 (.t 1)), B 36 (.load false 1 (.t 35)), B 37 (.mv (.t 36)), Bg 38 (.fadr 5 (.t 1)) 37 true, Bg 39 (.load true 6 (.t 38)) 37 true, Bg 40 (.call 162 [(.t 39)]) 37 true, Bg 41 (.not (.t 40)) 37 true, B 42 (.pick (.t 37) (.t 41) (.k (.c (.bool false))))] [1, 4, 5, 42])
  (.cond (.t 42) (.seq (.reg [B 2 (.asg (.k (.c (.bool false))))] [2])
  .ret)
  .skip))
  (.seq (.regd [Oo 43 (.mv (.t 4)), Oo 44 (.mv (.t 43)), Og 45 (.mv (.t 5)) 44 true, Oo 46 (.pick (.t 44) (.t 45) (.k (.c (.bool false)))), Oo 47 (.mv (.t 46)), Og 48 (.fadr 4 (.t 1)) 47 true, Og 49 (.load false 1 (.t 48)) 47 true, Og 50 (.call 96 [(.t 49), (.k (.c (.int .i64 0))), (.k (.c (.int .i64 2147483648)))]) 47 true, Oo 51 (.pick (.t 47) (.t 50) (.k (.c (.bool false)))), Oo 52 (.mv (.t 51)), Og 53 (.load true 46 (.t 1)) 52 true, Og 54 (.call 163 [(.t 53)]) 52 true, Og 55 (.fadr 0 (.t 1)) 52 true, Og 56 (.load false 1 (.t 55)) 52 true, Og 57 (.fadr 2 (.t 1)) 52 true, Og 58 (.load false 1 (.t 57)) 52 true, Og 59 (.fadr 3 (.t 1)) 52 true, Og 60 (.load false 1 (.t 59)) 52 true, Og 61 (.fadr 4 (.t 1)) 52 true, Og 62 (.load false 1 (.t 61)) 52 true, Og 63 (.fadr 11 (.t 1)) 52 true, Og 64 (.load true 32 (.t 63)) 52 true, Og 65 (.fadr 43 (.t 1)) 52 true, Og 66 (.load false 1 (.t 65)) 52 true, Og 67 (.build [.int .i64 0, .str [], .int .i64 0, .int .i64 0, .int .i64 0, .int .i64 0, .int .i64 0, .int .i64 0, .str [], .sl 1 [] .nil, .sl 6 [] .nil, .int .u8 0, .int .u8 0, .int .u8 0, .int .u8 0, .int .u8 0, .int .u8 0, .int .u8 0, .int .u8 0, .int .u8 0, .int .u8 0, .int .u8 0, .int .u8 0, .int .u8 0, .int .u8 0, .int .u8 0, .int .u8 0, .int .u8 0, .int .u8 0, .int .u8 0, .int .u8 0, .int .u8 0, .int .u8 0, .int .u8 0, .int .u8 0, .int .u8 0, .int .u8 0, .int .u8 0, .int .u8 0, .int .u8 0, .int .u8 0, .int .u8 0, .int .u8 0, .bool false, .int .i64 0, .int .i64 0] [(0, 1, (.t 56)), (2, 1, (.t 58)), (3, 1, (.t 60)), (4, 1, (.t 62)), (11, 32, (.t 64)), (43, 1, (.t 66))]) 52 true, Og 68 (.call 161 [(.t 54), (.t 67)]) 52 true, Oo 69 (.pick (.t 52) (.t 68) (.k (.c (.bool false)))), Oo 2 (.asg (.t 69))]
    (.fl 0 (.fl 1 (.fl 2 (.fl 3 (.fl 4 (.fl 5 (.fl 6 (.ch 7 [] (.fl 8 (.fl 9 (.fl 10 (.fl 12 (.fl 13 (.fl 14 (.fl 15 (.fl 16 (.fl 17 (.fl 18 (.fl 19 (.fl 20 (.fl 21 (.fl 22 (.fl 23 (.fl 24 (.ch 11 [13, 15, 17, 19, 21, 23] (.ch 25 [] (.fl 26 (.ch 27 [] .done)))))))))))))))))))))))))))) [2])
  .ret))
  (.seq (.reg [B 71 (.bin .eq (.t 17) (.k (.c (.int .i64 3)))), B 70 (.asg (.t 71))] [1, 3, 4, 5, 17, 70])
  (.cond (.t 70) (.seq (.reg [B 72 (.mv (.t 4)), B 73 (.mv (.t 72)), Bg 74 (.mv (.t 5)) 73 true, B 75 (.pick (.t 73) (.t 74) (.k (.c (.bool false)))), B 76 (.mv (.t 75)), Bg 77 (.fadr 4 (.t 1)) 76 true, Bg 78 (.load false 1 (.t 77)) 76 true, Bg 79 (.call 96 [(.t 78), (.k (.c (.int .i64 1))), (.k (.c (.int .i64 2147483648)))]) 76 true, B 80 (.pick (.t 76) (.t 79) (.k (.c (.bool false)))), B 81 (.mv (.t 80)), Bg 82 (.load true 46 (.t 1)) 81 true, Bg 83 (.fadr 0 (.t 1)) 81 true, Bg 84 (.load false 1 (.t 83)) 81 true, Bg 85 (.fadr 2 (.t 1)) 81 true, Bg 86 (.load false 1 (.t 85)) 81 true, Bg 87 (.fadr 3 (.t 1)) 81 true, Bg 88 (.load false 1 (.t 87)) 81 true, Bg 89 (.fadr 4 (.t 1)) 81 true, Bg 90 (.load false 1 (.t 89)) 81 true, Bg 91 (.build [.int .i64 0, .str [], .int .i64 0, .int .i64 0, .int .i64 0, .int .i64 0, .int .i64 0, .int .i64 0, .str [], .sl 1 [] .nil, .sl 6 [] .nil, .int .u8 0, .int .u8 0, .int .u8 0, .int .u8 0, .int .u8 0, .int .u8 0, .int .u8 0, .int .u8 0, .int .u8 0, .int .u8 0, .int .u8 0, .int .u8 0, .int .u8 0, .int .u8 0, .int .u8 0, .int .u8 0, .int .u8 0, .int .u8 0, .int .u8 0, .int .u8 0, .int .u8 0, .int .u8 0, .int .u8 0, .int .u8 0, .int .u8 0, .int .u8 0, .int .u8 0, .int .u8 0, .int .u8 0, .int .u8 0, .int .u8 0, .int .u8 0, .bool false, .int .i64 0, .int .i64 0] [(0, 1, (.t 84)), (2, 1, (.t 86)), (3, 1, (.t 88)), (4, 1, (.t 90))]) 81 true, Bg 92 (.call 161 [(.t 82), (.t 91)]) 81 true, B 93 (.pick (.t 81) (.t 92) (.k (.c (.bool false)))), B 2 (.asg (.t 93))] [2])
  .ret)
  (.seq (.reg [B 95 (.bin .eq (.t 17) (.k (.c (.int .i64 4)))), B 94 (.asg (.t 95))] [1, 3, 4, 17, 94])
  (.cond (.t 94) (.seq (.reg [B 96 (.fadr 44 (.t 1)), B 97 (.fadr 0 (.t 96)), B 98 (.load false 1 (.t 97)), B 99 (.call 96 [(.t 98), (.k (.c (.int .i64 0))), (.k (.c (.int .i64 2147483648)))]), B 100 (.mv (.t 99)), Bg 101 (.fadr 44 (.t 1)) 100 true, Bg 102 (.fadr 1 (.t 101)) 100 true, Bg 103 (.load false 1 (.t 102)) 100 true, Bg 104 (.call 96 [(.t 103), (.k (.c (.int .i64 0))), (.k (.c (.int .i64 2147483648)))]) 100 true, B 105 (.pick (.t 100) (.t 104) (.k (.c (.bool false)))), B 106 (.mv (.t 105)), Bg 107 (.load true 46 (.t 1)) 106 true, Bg 108 (.fadr 0 (.t 1)) 106 true, Bg 109 (.load false 1 (.t 108)) 106 true, Bg 110 (.fadr 44 (.t 1)) 106 true, Bg 111 (.load true 2 (.t 110)) 106 true, Bg 112 (.build [.int .i64 0, .str [], .int .i64 0, .int .i64 0, .int .i64 0, .int .i64 0, .int .i64 0, .int .i64 0, .str [], .sl 1 [] .nil, .sl 6 [] .nil, .int .u8 0, .int .u8 0, .int .u8 0, .int .u8 0, .int .u8 0, .int .u8 0, .int .u8 0, .int .u8 0, .int .u8 0, .int .u8 0, .int .u8 0, .int .u8 0, .int .u8 0, .int .u8 0, .int .u8 0, .int .u8 0, .int .u8 0, .int .u8 0, .int .u8 0, .int .u8 0, .int .u8 0, .int .u8 0, .int .u8 0, .int .u8 0, .int .u8 0, .int .u8 0, .int .u8 0, .int .u8 0, .int .u8 0, .int .u8 0, .int .u8 0, .int .u8 0, .bool false, .int .i64 0, .int .i64 0] [(0, 1, (.t 109)), (44, 2, (.t 111))]) 106 true, Bg 113 (.call 161 [(.t 107), (.t 112)]) 106 true, B 114 (.pick (.t 106) (.t 113) (.k (.c (.bool false)))), B 2 (.asg (.t 114))] [2])
  .ret)
  (.seq (.seq (.reg [B 116 (.bin .eq (.t 17) (.k (.c (.int .i64 5)))), B 115 (.asg (.t 116))] [1, 3, 4, 17, 115])
  (.cond (.t 115) .skip
  (.reg [B 117 (.bin .eq (.t 17) (.k (.c (.int .i64 7)))), B 115 (.asg (.t 117))] [1, 3, 4, 17, 115])))
  (.cond (.t 115) (.seq (.reg [B 118 (.mv (.t 4)), B 119 (.mv (.t 118)), Bg 120 (.mv (.t 3)) 119 true, B 121 (.pick (.t 119) (.t 120) (.k (.c (.bool false)))), B 122 (.mv (.t 121)), Bg 123 (.load true 46 (.t 1)) 122 true, Bg 124 (.fadr 0 (.t 1)) 122 true, Bg 125 (.load false 1 (.t 124)) 122 true, Bg 126 (.fadr 2 (.t 1)) 122 true, Bg 127 (.load false 1 (.t 126)) 122 true, Bg 128 (.fadr 1 (.t 1)) 122 true, Bg 129 (.load false 1 (.t 128)) 122 true, Bg 130 (.build [.int .i64 0, .str [], .int .i64 0, .int .i64 0, .int .i64 0, .int .i64 0, .int .i64 0, .int .i64 0, .str [], .sl 1 [] .nil, .sl 6 [] .nil, .int .u8 0, .int .u8 0, .int .u8 0, .int .u8 0, .int .u8 0, .int .u8 0, .int .u8 0, .int .u8 0, .int .u8 0, .int .u8 0, .int .u8 0, .int .u8 0, .int .u8 0, .int .u8 0, .int .u8 0, .int .u8 0, .int .u8 0, .int .u8 0, .int .u8 0, .int .u8 0, .int .u8 0, .int .u8 0, .int .u8 0, .int .u8 0, .int .u8 0, .int .u8 0, .int .u8 0, .int .u8 0, .int .u8 0, .int .u8 0, .int .u8 0, .int .u8 0, .bool false, .int .i64 0, .int .i64 0] [(0, 1, (.t 125)), (2, 1, (.t 127)), (1, 1, (.t 129))]) 122 true, Bg 131 (.call 161 [(.t 123), (.t 130)]) 122 true, B 132 (.pick (.t 122) (.t 131) (.k (.c (.bool false)))), B 2 (.asg (.t 132))] [2])
  .ret)
  (.seq (.reg [B 134 (.bin .eq (.t 17) (.k (.c (.int .i64 6)))), B 133 (.asg (.t 134))] [1, 4, 133])
  (.cond (.t 133) (.seq (.reg [B 135 (.mv (.t 4)), B 136 (.mv (.t 135)), Bg 137 (.load true 46 (.t 1)) 136 true, Bg 138 (.fadr 0 (.t 1)) 136 true, Bg 139 (.load false 1 (.t 138)) 136 true, Bg 140 (.fadr 2 (.t 1)) 136 true, Bg 141 (.load false 1 (.t 140)) 136 true, Bg 142 (.build [.int .i64 0, .str [], .int .i64 0, .int .i64 0, .int .i64 0, .int .i64 0, .int .i64 0, .int .i64 0, .str [], .sl 1 [] .nil, .sl 6 [] .nil, .int .u8 0, .int .u8 0, .int .u8 0, .int .u8 0, .int .u8 0, .int .u8 0, .int .u8 0, .int .u8 0, .int .u8 0, .int .u8 0, .int .u8 0, .int .u8 0, .int .u8 0, .int .u8 0, .int .u8 0, .int .u8 0, .int .u8 0, .int .u8 0, .int .u8 0, .int .u8 0, .int .u8 0, .int .u8 0, .int .u8 0, .int .u8 0, .int .u8 0, .int .u8 0, .int .u8 0, .int .u8 0, .int .u8 0, .int .u8 0, .int .u8 0, .int .u8 0, .bool false, .int .i64 0, .int .i64 0] [(0, 1, (.t 139)), (2, 1, (.t 141))]) 136 true, Bg 143 (.call 161 [(.t 137), (.t 142)]) 136 true, B 144 (.pick (.t 136) (.t 143) (.k (.c (.bool false)))), B 2 (.asg (.t 144))] [2])
  .ret)
  .skip))))))))))))))
  (.seq (.reg [B 2 (.asg (.k (.c (.bool false))))] [2])
  .ret))))))
def r128 : List ARes := [.tmp 2]
theorem k128 : bChk Tryz.prog 128 Tryz.f128 1 c128 r128 = true := by kernel_rfl
theorem p128 : Tryz.prog.funcs[128]? = some Tryz.f128 := by kernel_rfl

/-- scrivener/scrivenerref11.head -/
def c129 : BCode :=
  (.seq (.reg [B 1 (.boxR (.t 0)), B 2 (.asg (.k (.c (.sl 1 [] .nil))))] [1])
  (.seq (.reg [B 3 (.asg (.k (.c (.sl 1 [] .nil))))] [1, 3])
  (.seq (.reg [B 6 (.fadr 0 (.t 1)), B 7 (.load false 1 (.t 6)), B 8 (.fadr 1 (.t 1)), B 9 (.load false 1 (.t 8)), B 10 (.fadr 2 (.t 1)), B 11 (.load false 1 (.t 10)), B 12 (.slR 1 3 [.int .i64 0, .int .i64 0, .int .i64 0] [(0, 1, (.t 7)), (1, 1, (.t 9)), (2, 1, (.t 11))]), B 4 (.asg (.t 12))] [1, 3, 4])
  (.seq (.seq (.reg [B 5 (.asg (.k (.c (.int .i64 0))))] [1, 3, 4, 5])
  (.block 0 (.loop (.seq (.seq (.reg [B 13 (.mv (.t 5)), B 14 (.bin .lt (.t 13) (.k (.c (.int .i64 3))))] [1, 3, 4, 5, 14])
  (.cond (.t 14) .skip
  (.exit 0)))
  (.seq (.block 1 (.reg [B 17 (.mv (.t 3)), B 18 (.mv (.t 4)), B 19 (.mv (.t 5)), B 20 (.iadr 1 (.t 18) (.t 19)), B 21 (.load false 1 (.t 20)), B 22 (.mm true (.k (.c (.int .i64 0))) (.t 21)), B 23 (.conv .u64 (.t 22)), B 24 (.call 130 [(.t 23)]), B 25 (.app 1 1 (.t 17) (.t 24)), B 3 (.asg (.t 25))] [1, 3, 4, 5]))
  (.reg [B 15 (.mv (.t 5)), B 16 (.bin .add (.t 15) (.k (.c (.int .i64 1)))), B 5 (.asg (.t 16))] [1, 3, 4, 5]))))))
  (.seq (.reg [B 26 (.mv (.t 3)), B 27 (.fadr 3 (.t 1)), B 28 (.aslice 1 32 (.t 27)), B 29 (.app 1 1 (.t 26) (.t 28)), B 2 (.asg (.t 29))] [2])
  .ret)))))
def r129 : List ARes := [.tmp 2]
theorem k129 : bChk Tryz.prog 129 Tryz.f129 1 c129 r129 = true := by kernel_rfl
theorem p129 : Tryz.prog.funcs[129]? = some Tryz.f129 := by kernel_rfl

/-- scrivener/scrivenerref1.Uvarint -/
def c130 : BCode :=
  (.seq (.reg [B 2 (.asg (.k (.c (.sl 1 [] .nil))))] [0])
  (.seq (.reg [B 3 (.asg (.k (.c (.sl 1 [] .nil))))] [0, 3])
  (.seq (.block 0 (.loop (.seq (.seq (.reg [B 4 (.mv (.t 0)), B 5 (.bin .ge (.t 4) (.k (.c (.int .u64 128))))] [0, 3, 5])
  (.cond (.t 5) .skip
  (.exit 0)))
  (.block 1 (.seq (.reg [B 6 (.mv (.t 3)), B 7 (.mv (.t 0)), B 8 (.bin .and (.t 7) (.k (.c (.int .u64 127)))), B 9 (.conv .u8 (.t 8)), B 10 (.bin .or (.t 9) (.k (.c (.int .u8 128)))), B 11 (.slR 1 1 [.int .u8 0] [(0, 1, (.t 10))]), B 12 (.app 1 1 (.t 6) (.t 11)), B 3 (.asg (.t 12))] [0, 3])
  (.reg [B 13 (.mv (.t 0)), B 14 (.bin .shr (.t 13) (.k (.c (.int .u64 7)))), B 0 (.asg (.t 14))] [0, 3]))))))
  (.seq (.reg [B 15 (.mv (.t 3)), B 16 (.mv (.t 0)), B 17 (.conv .u8 (.t 16)), B 18 (.slR 1 1 [.int .u8 0] [(0, 1, (.t 17))]), B 19 (.app 1 1 (.t 15) (.t 18)), B 2 (.asg (.t 19))] [2])
  .ret))))
def r130 : List ARes := [.tmp 2]
theorem k130 : bChk Tryz.prog 130 Tryz.f130 1 c130 r130 = true := by kernel_rfl
theorem p130 : Tryz.prog.funcs[130]? = some Tryz.f130 := by kernel_rfl

/-- scrivener/scrivenerref11.Bytes -/
def c131 : BCode :=
  (.seq (.reg [B 1 (.boxR (.t 0)), B 2 (.asg (.k (.c (.sl 1 [] .nil))))] [1])
  (.seq (.reg [B 4 (.fadr 0 (.t 1)), B 5 (.load false 1 (.t 4)), B 6 (.conv .u8 (.t 5)), B 7 (.slR 1 1 [.int .u8 0] [(0, 1, (.t 6))]), B 3 (.asg (.t 7))] [1, 3])
  (.seq (.reg [B 8 (.mv (.t 3)), B 9 (.fadr 2 (.t 1)), B 10 (.load false 1 (.t 9)), B 11 (.conv .u64 (.t 10)), B 12 (.call 164 [(.t 11)]), B 13 (.app 1 1 (.t 8) (.t 12)), B 3 (.asg (.t 13))] [1, 3])
  (.seq (.reg [B 14 (.mv (.t 3)), B 15 (.fadr 3 (.t 1)), B 16 (.load false 1 (.t 15)), B 17 (.conv .u64 (.t 16)), B 18 (.call 164 [(.t 17)]), B 19 (.app 1 1 (.t 14) (.t 18)), B 3 (.asg (.t 19))] [1, 3])
  (.seq (.reg [B 20 (.mv (.t 3)), B 21 (.fadr 4 (.t 1)), B 22 (.load false 1 (.t 21)), B 23 (.conv .u64 (.t 22)), B 24 (.call 164 [(.t 23)]), B 25 (.app 1 1 (.t 20) (.t 24)), B 3 (.asg (.t 25))] [1, 3])
  (.seq (.reg [B 26 (.mv (.t 3)), B 27 (.fadr 1 (.t 1)), B 28 (.load false 1 (.t 27)), B 29 (.slen (.t 28)), B 30 (.conv .u64 (.t 29)), B 31 (.call 164 [(.t 30)]), B 32 (.app 1 1 (.t 26) (.t 31)), B 3 (.asg (.t 32))] [1, 3])
  (.seq (.reg [B 33 (.mv (.t 3)), B 34 (.fadr 1 (.t 1)), B 35 (.load false 1 (.t 34)), B 36 (.app 1 1 (.t 33) (.t 35)), B 3 (.asg (.t 36))] [1, 3])
  (.seq (.reg [B 37 (.mv (.t 3)), B 38 (.fadr 44 (.t 1)), B 39 (.fadr 0 (.t 38)), B 40 (.load false 1 (.t 39)), B 41 (.conv .u64 (.t 40)), B 42 (.call 164 [(.t 41)]), B 43 (.app 1 1 (.t 37) (.t 42)), B 3 (.asg (.t 43))] [1, 3])
  (.seq (.reg [B 44 (.mv (.t 3)), B 45 (.fadr 44 (.t 1)), B 46 (.fadr 1 (.t 45)), B 47 (.load false 1 (.t 46)), B 48 (.conv .u64 (.t 47)), B 49 (.call 164 [(.t 48)]), B 50 (.app 1 1 (.t 44) (.t 49)), B 3 (.asg (.t 50))] [1, 3])
  (.seq (.seq (.reg [B 51 (.fadr 0 (.t 1)), B 52 (.load false 1 (.t 51)), B 53 (.bin .eq (.t 52) (.k (.c (.int .i64 2))))] [1, 3, 53])
  (.cond (.t 53) (.reg [B 54 (.mv (.t 3)), B 55 (.fadr 11 (.t 1)), B 56 (.aslice 1 32 (.t 55)), B 57 (.app 1 1 (.t 54) (.t 56)), B 3 (.asg (.t 57))] [3])
  .skip))
  (.seq (.reg [B 58 (.mv (.t 3)), B 2 (.asg (.t 58))] [2])
  .ret)))))))))))
def r131 : List ARes := [.tmp 2]
theorem k131 : bChk Tryz.prog 131 Tryz.f131 1 c131 r131 = true := by kernel_rfl
theorem p131 : Tryz.prog.funcs[131]? = some Tryz.f131 := by kernel_rfl

/-- scrivener/scrivenerref14.name -/
def c132 : BCode :=
  (.seq (.reg [B 2 (.asg (.k (.c (.bool false))))] [0])
  (.seq (.reg [B 3 (.mv (.t 0)), B 4 (.slen (.t 3)), B 5 (.bin .ge (.t 4) (.k (.c (.int .i64 1)))), B 6 (.mv (.t 5)), Bg 7 (.mv (.t 0)) 6 true, Bg 8 (.slen (.t 7)) 6 true, Bg 9 (.bin .le (.t 8) (.k (.c (.int .i64 40)))) 6 true, B 10 (.pick (.t 6) (.t 9) (.k (.c (.bool false)))), B 2 (.asg (.t 10))] [2])
  .ret))
def r132 : List ARes := [.tmp 2]
theorem k132 : bChk Tryz.prog 132 Tryz.f132 1 c132 r132 = true := by kernel_rfl
theorem p132 : Tryz.prog.funcs[132]? = some Tryz.f132 := by kernel_rfl

/-- (*scrivener/scrivenerref14.Catalog).Find -/
def c133 : BCode :=
  (.seq (.reg [B 4 (.alloc [.int .i64 0, .str [], .bool false, .sl 1 [] .nil]), B 5 (.asg (.k (.c (.int .i64 0))))] [0, 1, 4])
  (.seq (.seq (.reg [B 6 (.asg (.k (.c (.int .i64 0))))] [0, 1, 4, 6])
  (.block 0 (.loop (.seq (.seq (.reg [B 7 (.mv (.t 6)), B 8 (.mv (.t 0)), B 9 (.nilck (.t 8)), B 10 (.fadr 0 (.t 9)), B 11 (.load false 1 (.t 10)), B 12 (.len (.t 11)), B 13 (.bin .lt (.t 7) (.t 12))] [0, 1, 4, 6, 13])
  (.cond (.t 13) .skip
  (.exit 0)))
  (.seq (.block 1 (.seq (.reg [B 16 (.mv (.t 0)), B 17 (.nilck (.t 16)), B 18 (.fadr 0 (.t 17)), B 19 (.load false 1 (.t 18)), B 20 (.mv (.t 6)), B 21 (.iadr 4 (.t 19) (.t 20)), B 22 (.fadr 2 (.t 21)), B 23 (.load false 1 (.t 22)), B 24 (.not (.t 23)), B 25 (.mv (.t 24)), Bg 26 (.mv (.t 0)) 25 true, Bg 27 (.nilck (.t 26)) 25 true, Bg 28 (.fadr 0 (.t 27)) 25 true, Bg 29 (.load false 1 (.t 28)) 25 true, Bg 30 (.mv (.t 6)) 25 true, Bg 31 (.iadr 4 (.t 29) (.t 30)) 25 true, Bg 32 (.fadr 1 (.t 31)) 25 true, Bg 33 (.load false 1 (.t 32)) 25 true, Bg 34 (.mv (.t 1)) 25 true, Bg 35 (.bin .seq (.t 33) (.t 34)) 25 true, B 36 (.pick (.t 25) (.t 35) (.k (.c (.bool false))))] [0, 1, 4, 6, 36])
  (.cond (.t 36) (.seq (.reg [B 37 (.mv (.t 0)), B 38 (.nilck (.t 37)), B 39 (.fadr 0 (.t 38)), B 40 (.load false 1 (.t 39)), B 41 (.mv (.t 6)), B 42 (.iadr 4 (.t 40) (.t 41)), B 43 (.load true 4 (.t 42)), Bn (.store 4 (.t 4) (.t 43)), B 5 (.asg (.k (.c (.int .i64 0))))] [4, 5])
  .ret)
  .skip)))
  (.reg [B 14 (.mv (.t 6)), B 15 (.bin .add (.t 14) (.k (.c (.int .i64 1)))), B 6 (.asg (.t 15))] [0, 1, 4, 6]))))))
  (.seq (.reg [B 44 (.build [.int .i64 0, .str [], .bool false, .sl 1 [] .nil] []), Bn (.store 4 (.t 4) (.t 44)), B 5 (.asg (.k (.c (.int .i64 13))))] [4, 5])
  .ret)))
def r133 : List ARes := [.cell 4 true 4, .tmp 5]
theorem k133 : bChk Tryz.prog 133 Tryz.f133 2 c133 r133 = true := by kernel_rfl
theorem p133 : Tryz.prog.funcs[133]? = some Tryz.f133 := by kernel_rfl

/-- slices.Clone[[]scrivener/catalog.Index,scrivener/catalog.Index] -/
def c134 : BCode :=
  (.seq (.reg [B 2 (.asg (.k (.c (.sl 1 [] .nil))))] [0])
  (.seq (.seq (.reg [B 3 (.mv (.t 0)), B 4 (.bin .eqnil (.t 3) (.k (.c (.sl 1 [] .nil))))] [0, 4])
  (.cond (.t 4) (.seq (.reg [B 2 (.asg (.k (.c (.sl 1 [] .nil))))] [2])
  .ret)
  .skip))
  (.seq (.reg [B 5 (.slE 1), B 6 (.mv (.t 0)), B 7 (.app 1 16 (.t 5) (.t 6)), B 2 (.asg (.t 7))] [2])
  .ret)))
def r134 : List ARes := [.tmp 2]
theorem k134 : bChk Tryz.prog 134 Tryz.f134 1 c134 r134 = true := by kernel_rfl
theorem p134 : Tryz.prog.funcs[134]? = some Tryz.f134 := by kernel_rfl

/-- scrivener/value.check -/
def c142 : BCode :=
  (.seq (.reg [B 2 (.boxR (.t 0)), B 4 (.asg (.k (.c (.int .i64 0))))] [1, 2])
  (.seq (.seq (.reg [B 9 (.mv (.t 1)), B 10 (.bin .gt (.t 9) (.k (.c (.int .i64 16))))] [1, 2, 10])
  (.cond (.t 10) (.seq (.reg [B 4 (.asg (.k (.c (.int .i64 9))))] [4])
  .ret)
  .skip))
  (.seq (.seq (.reg [B 11 (.load true 6 (.t 2)), B 12 (.call 168 [(.t 11)]), B 5 (.asg (.t 12))] [1, 2, 5])
  (.seq (.reg [B 13 (.mv (.t 5)), B 14 (.bin .ne (.t 13) (.k (.c (.int .i64 0))))] [1, 2, 5, 14])
  (.cond (.t 14) (.seq (.reg [B 15 (.mv (.t 5)), B 4 (.asg (.t 15))] [4])
  .ret)
  .skip)))
  (.seq (.seq (.reg [B 16 (.fadr 5 (.t 2)), B 17 (.load false 1 (.t 16)), B 18 (.len (.t 17)), B 19 (.mv (.k (.c (.int .i64 0))))] [1, 17, 18, 19])
  (.block 0 (.loop (.seq (.reg [B 20 (.bin .lt (.t 19) (.t 18))] [1, 17, 18, 19, 20])
  (.seq (.cond (.t 20) .skip
  (.exit 0))
  (.seq (.block 1 (.seq (.reg [B 21 (.iadr 6 (.t 17) (.t 19)), B 22 (.load true 6 (.t 21)), B 7 (.alloc [.int .i64 0, .int .i64 0, .int .i64 0, .str [], .sl 1 [] .nil, .sl 6 [] .nil]), Bn (.store 6 (.t 7) (.t 22))] [1, 7, 17, 18, 19])
  (.seq (.reg [B 23 (.load true 6 (.t 7)), B 24 (.mv (.t 1)), B 25 (.bin .add (.t 24) (.k (.c (.int .i64 1)))), B 26 (.call 142 [(.t 23), (.t 25)]), B 8 (.asg (.t 26))] [1, 8, 17, 18, 19])
  (.seq (.reg [B 27 (.mv (.t 8)), B 28 (.bin .ne (.t 27) (.k (.c (.int .i64 0))))] [1, 8, 17, 18, 19, 28])
  (.cond (.t 28) (.seq (.reg [B 29 (.mv (.t 8)), B 4 (.asg (.t 29))] [4])
  .ret)
  .skip)))))
  (.reg [B 30 (.bin .add (.t 19) (.k (.c (.int .i64 1)))), B 19 (.mv (.t 30))] [1, 17, 18, 19])))))))
  (.seq (.reg [B 4 (.asg (.k (.c (.int .i64 0))))] [4])
  .ret)))))
def r142 : List ARes := [.tmp 4]
theorem k142 : bChk Tryz.prog 142 Tryz.f142 2 c142 r142 = true := by kernel_rfl
theorem p142 : Tryz.prog.funcs[142]? = some Tryz.f142 := by kernel_rfl

/-- scrivener/scrivenerref7.parts -/
def c153 : BCode :=
  (.seq (.reg [B 2 (.boxR (.t 0)), B 4 (.asg (.k (.c (.bool false))))] [1, 2])
  (.seq (.regd [Oo 6 (.mv (.t 1)), Oo 7 (.mv (.t 1)), Oo 8 (.nilck (.t 7)), Oo 9 (.load false 1 (.t 8)), Oo 10 (.bin .add (.t 9) (.k (.c (.int .i64 1)))), Oo 11 (.fadr 3 (.t 2)), Oo 12 (.load false 1 (.t 11)), Oo 13 (.slen (.t 12)), Oo 14 (.bin .add (.t 10) (.t 13)), Oo 15 (.nilck (.t 6)), On (.store 1 (.t 15) (.t 14))]
    (.fl 0 (.fl 1 (.fl 2 (.fl 3 (.fl 4 (.fl 5 (.fl 6 (.fl 7 (.fl 8 (.fl 9 (.ch 10 [] .done))))))))))) [1, 2])
  (.seq (.seq (.reg [B 5 (.asg (.k (.c (.int .i64 0))))] [1, 2, 5])
  (.block 0 (.loop (.seq (.seq (.reg [B 16 (.mv (.t 5)), B 17 (.fadr 5 (.t 2)), B 18 (.load false 1 (.t 17)), B 19 (.len (.t 18)), B 20 (.bin .lt (.t 16) (.t 19)), B 21 (.mv (.t 20)), Bg 22 (.mv (.t 1)) 21 true, Bg 23 (.nilck (.t 22)) 21 true, Bg 24 (.load false 1 (.t 23)) 21 true, Bg 25 (.bin .le (.t 24) (.k (.c (.int .i64 65536)))) 21 true, B 26 (.pick (.t 21) (.t 25) (.k (.c (.bool false))))] [1, 2, 5, 26])
  (.cond (.t 26) .skip
  (.exit 0)))
  (.seq (.block 1 (.reg [B 29 (.fadr 5 (.t 2)), B 30 (.load false 1 (.t 29)), B 31 (.mv (.t 5)), B 32 (.iadr 6 (.t 30) (.t 31)), B 33 (.load true 6 (.t 32)), B 34 (.mv (.t 1)), B 35 (.call 153 [(.t 33), (.t 34)])] [1, 2, 5]))
  (.reg [B 27 (.mv (.t 5)), B 28 (.bin .add (.t 27) (.k (.c (.int .i64 1)))), B 5 (.asg (.t 28))] [1, 2, 5]))))))
  (.seq (.reg [B 36 (.mv (.t 1)), B 37 (.nilck (.t 36)), B 38 (.load false 1 (.t 37)), B 39 (.bin .gt (.t 38) (.k (.c (.int .i64 65536)))), B 4 (.asg (.t 39))] [4])
  .ret))))
def r153 : List ARes := [.tmp 4]
theorem k153 : bChk Tryz.prog 153 Tryz.f153 2 c153 r153 = true := by kernel_rfl
theorem p153 : Tryz.prog.funcs[153]? = some Tryz.f153 := by kernel_rfl

/-- scrivener/scrivenerref7.bytes -/
def c154 : BCode :=
  (.seq (.reg [B 3 (.boxR (.t 1)), B 4 (.asg (.k (.c (.sl 1 [] .nil))))] [0, 3])
  (.seq (.reg [B 6 (.mv (.t 0)), B 7 (.fadr 0 (.t 3)), B 8 (.load false 1 (.t 7)), B 9 (.conv .u8 (.t 8)), B 10 (.slR 1 1 [.int .u8 0] [(0, 1, (.t 9))]), B 11 (.app 1 1 (.t 6) (.t 10)), B 0 (.asg (.t 11))] [0, 3])
  (.seq (.seq (.reg [B 12 (.fadr 0 (.t 3)), B 13 (.load false 1 (.t 12))] [0, 3, 13])
  (.block 0 (.seq (.reg [B 15 (.bin .eq (.t 13) (.k (.c (.int .i64 2)))), B 14 (.asg (.t 15))] [0, 3, 13, 14])
  (.cond (.t 14) (.reg [B 16 (.mv (.t 0)), B 17 (.fadr 1 (.t 3)), B 18 (.load false 1 (.t 17)), B 19 (.conv .u8 (.t 18)), B 20 (.slR 1 1 [.int .u8 0] [(0, 1, (.t 19))]), B 21 (.app 1 1 (.t 16) (.t 20)), B 0 (.asg (.t 21))] [0])
  (.seq (.reg [B 23 (.bin .eq (.t 13) (.k (.c (.int .i64 3)))), B 22 (.asg (.t 23))] [0, 3, 13, 22])
  (.cond (.t 22) (.reg [B 24 (.mv (.t 0)), B 25 (.fadr 1 (.t 3)), B 26 (.load false 1 (.t 25)), B 27 (.call 174 [(.t 26)]), B 28 (.call 130 [(.t 27)]), B 29 (.app 1 1 (.t 24) (.t 28)), B 0 (.asg (.t 29))] [0])
  (.seq (.reg [B 31 (.bin .eq (.t 13) (.k (.c (.int .i64 4)))), B 30 (.asg (.t 31))] [0, 3, 13, 30])
  (.cond (.t 30) (.seq (.reg [B 32 (.mv (.t 0)), B 33 (.fadr 1 (.t 3)), B 34 (.load false 1 (.t 33)), B 35 (.call 174 [(.t 34)]), B 36 (.call 130 [(.t 35)]), B 37 (.app 1 1 (.t 32) (.t 36)), B 0 (.asg (.t 37))] [0, 3])
  (.reg [B 38 (.mv (.t 0)), B 39 (.fadr 2 (.t 3)), B 40 (.load false 1 (.t 39)), B 41 (.conv .u8 (.t 40)), B 42 (.slR 1 1 [.int .u8 0] [(0, 1, (.t 41))]), B 43 (.app 1 1 (.t 38) (.t 42)), B 0 (.asg (.t 43))] [0]))
  (.seq (.reg [B 45 (.bin .eq (.t 13) (.k (.c (.int .i64 5)))), B 44 (.asg (.t 45))] [0, 3, 13, 44])
  (.cond (.t 44) (.reg [B 46 (.mv (.t 0)), B 47 (.fadr 1 (.t 3)), B 48 (.load false 1 (.t 47)), B 49 (.conv .u64 (.t 48)), B 50 (.call 130 [(.t 49)]), B 51 (.app 1 1 (.t 46) (.t 50)), B 0 (.asg (.t 51))] [0])
  (.seq (.seq (.reg [B 53 (.bin .eq (.t 13) (.k (.c (.int .i64 6)))), B 52 (.asg (.t 53))] [0, 3, 13, 52])
  (.cond (.t 52) .skip
  (.reg [B 54 (.bin .eq (.t 13) (.k (.c (.int .i64 7)))), B 52 (.asg (.t 54))] [0, 3, 13, 52])))
  (.cond (.t 52) (.reg [B 55 (.mv (.t 0)), B 56 (.fadr 3 (.t 3)), B 57 (.load false 1 (.t 56)), B 58 (.call 175 [(.t 55), (.t 57)]), B 0 (.asg (.t 58))] [0])
  (.seq (.seq (.reg [B 60 (.bin .eq (.t 13) (.k (.c (.int .i64 8)))), B 59 (.asg (.t 60))] [0, 3, 13, 59])
  (.cond (.t 59) .skip
  (.reg [B 61 (.bin .eq (.t 13) (.k (.c (.int .i64 9)))), B 59 (.asg (.t 61))] [0, 3, 59])))
  (.cond (.t 59) (.seq (.reg [B 62 (.mv (.t 0)), B 63 (.fadr 5 (.t 3)), B 64 (.load false 1 (.t 63)), B 65 (.len (.t 64)), B 66 (.conv .u64 (.t 65)), B 67 (.call 130 [(.t 66)]), B 68 (.app 1 1 (.t 62) (.t 67)), B 0 (.asg (.t 68))] [0, 3])
  (.seq (.reg [B 5 (.asg (.k (.c (.int .i64 0))))] [0, 3, 5])
  (.block 1 (.loop (.seq (.seq (.reg [B 69 (.mv (.t 5)), B 70 (.fadr 5 (.t 3)), B 71 (.load false 1 (.t 70)), B 72 (.len (.t 71)), B 73 (.bin .lt (.t 69) (.t 72))] [0, 3, 5, 73])
  (.cond (.t 73) .skip
  (.exit 1)))
  (.seq (.block 2 (.seq (.seq (.reg [B 76 (.fadr 0 (.t 3)), B 77 (.load false 1 (.t 76)), B 78 (.bin .eq (.t 77) (.k (.c (.int .i64 9))))] [0, 3, 5, 78])
  (.cond (.t 78) (.reg [B 79 (.mv (.t 0)), B 80 (.fadr 4 (.t 3)), B 81 (.load false 1 (.t 80)), B 82 (.mv (.t 5)), B 83 (.iadr 1 (.t 81) (.t 82)), B 84 (.load false 1 (.t 83)), B 85 (.call 175 [(.t 79), (.t 84)]), B 0 (.asg (.t 85))] [0, 3, 5])
  .skip))
  (.reg [B 86 (.mv (.t 0)), B 87 (.fadr 5 (.t 3)), B 88 (.load false 1 (.t 87)), B 89 (.mv (.t 5)), B 90 (.iadr 6 (.t 88) (.t 89)), B 91 (.load true 6 (.t 90)), B 92 (.call 154 [(.t 86), (.t 91)]), B 0 (.asg (.t 92))] [0, 3, 5])))
  (.reg [B 74 (.mv (.t 5)), B 75 (.bin .add (.t 74) (.k (.c (.int .i64 1)))), B 5 (.asg (.t 75))] [0, 3, 5])))))))
  .skip))))))))))))))
  (.seq (.reg [B 93 (.mv (.t 0)), B 4 (.asg (.t 93))] [4])
  .ret))))
def r154 : List ARes := [.tmp 4]
theorem k154 : bChk Tryz.prog 154 Tryz.f154 2 c154 r154 = true := by kernel_rfl
theorem p154 : Tryz.prog.funcs[154]? = some Tryz.f154 := by kernel_rfl

/-- scrivener/scrivenerref2.Sum -/
def c155 : BCode :=
  (.seq (.reg [B 2 (.alloc [.int .u8 0, .int .u8 0, .int .u8 0, .int .u8 0, .int .u8 0, .int .u8 0, .int .u8 0, .int .u8 0, .int .u8 0, .int .u8 0, .int .u8 0, .int .u8 0, .int .u8 0, .int .u8 0, .int .u8 0, .int .u8 0, .int .u8 0, .int .u8 0, .int .u8 0, .int .u8 0, .int .u8 0, .int .u8 0, .int .u8 0, .int .u8 0, .int .u8 0, .int .u8 0, .int .u8 0, .int .u8 0, .int .u8 0, .int .u8 0, .int .u8 0, .int .u8 0])] [0, 2])
  (.seq (.reg [B 11 (.slE 1), B 12 (.mv (.t 0)), B 13 (.app 1 1 (.t 11) (.t 12)), B 14 (.slR 1 1 [.int .u8 0] [(0, 1, (.k (.c (.int .u8 128))))]), B 15 (.app 1 1 (.t 13) (.t 14)), B 3 (.asg (.t 15))] [0, 2, 3])
  (.seq (.block 0 (.loop (.seq (.seq (.reg [B 16 (.mv (.t 3)), B 17 (.len (.t 16)), B 18 (.bin .rem (.t 17) (.k (.c (.int .i64 64)))), B 19 (.bin .ne (.t 18) (.k (.c (.int .i64 56))))] [0, 2, 3, 19])
  (.cond (.t 19) .skip
  (.exit 0)))
  (.block 1 (.reg [B 20 (.mv (.t 3)), B 21 (.slR 1 1 [.int .u8 0] [(0, 1, (.k (.c (.int .u8 0))))]), B 22 (.app 1 1 (.t 20) (.t 21)), B 3 (.asg (.t 22))] [0, 2, 3])))))
  (.seq (.reg [B 23 (.mv (.t 0)), B 24 (.len (.t 23)), B 25 (.conv .u64 (.t 24)), B 26 (.bin .mul (.t 25) (.k (.c (.int .u64 8)))), B 4 (.asg (.t 26))] [2, 3, 4])
  (.seq (.seq (.reg [B 5 (.asg (.k (.c (.int .i64 7))))] [2, 3, 4, 5])
  (.block 2 (.loop (.seq (.seq (.reg [B 27 (.mv (.t 5)), B 28 (.bin .ge (.t 27) (.k (.c (.int .i64 0))))] [2, 3, 4, 5, 28])
  (.cond (.t 28) .skip
  (.exit 2)))
  (.seq (.block 3 (.reg [B 31 (.mv (.t 3)), B 32 (.mv (.t 4)), B 33 (.mv (.t 5)), B 34 (.bin .mul (.k (.c (.int .i64 8))) (.t 33)), B 35 (.conv .u64 (.t 34)), B 36 (.bin .shr (.t 32) (.t 35)), B 37 (.conv .u8 (.t 36)), B 38 (.slR 1 1 [.int .u8 0] [(0, 1, (.t 37))]), B 39 (.app 1 1 (.t 31) (.t 38)), B 3 (.asg (.t 39))] [2, 3, 4, 5]))
  (.reg [B 29 (.mv (.t 5)), B 30 (.bin .sub (.t 29) (.k (.c (.int .i64 1)))), B 5 (.asg (.t 30))] [2, 3, 4, 5]))))))
  (.seq (.reg [B 40 (.build [.int .u32 0, .int .u32 0, .int .u32 0, .int .u32 0, .int .u32 0, .int .u32 0, .int .u32 0, .int .u32 0] [(0, 1, (.k (.c (.int .u32 1779033703)))), (1, 1, (.k (.c (.int .u32 3144134277)))), (2, 1, (.k (.c (.int .u32 1013904242)))), (3, 1, (.k (.c (.int .u32 2773480762)))), (4, 1, (.k (.c (.int .u32 1359893119)))), (5, 1, (.k (.c (.int .u32 2600822924)))), (6, 1, (.k (.c (.int .u32 528734635)))), (7, 1, (.k (.c (.int .u32 1541459225))))]), B 6 (.alloc [.int .u32 0, .int .u32 0, .int .u32 0, .int .u32 0, .int .u32 0, .int .u32 0, .int .u32 0, .int .u32 0]), Bn (.store 8 (.t 6) (.t 40))] [2, 3, 6])
  (.seq (.reg [B 41 (.call 176 []), B 7 (.alloc [.int .u32 0, .int .u32 0, .int .u32 0, .int .u32 0, .int .u32 0, .int .u32 0, .int .u32 0, .int .u32 0, .int .u32 0, .int .u32 0, .int .u32 0, .int .u32 0, .int .u32 0, .int .u32 0, .int .u32 0, .int .u32 0, .int .u32 0, .int .u32 0, .int .u32 0, .int .u32 0, .int .u32 0, .int .u32 0, .int .u32 0, .int .u32 0, .int .u32 0, .int .u32 0, .int .u32 0, .int .u32 0, .int .u32 0, .int .u32 0, .int .u32 0, .int .u32 0, .int .u32 0, .int .u32 0, .int .u32 0, .int .u32 0, .int .u32 0, .int .u32 0, .int .u32 0, .int .u32 0, .int .u32 0, .int .u32 0, .int .u32 0, .int .u32 0, .int .u32 0, .int .u32 0, .int .u32 0, .int .u32 0, .int .u32 0, .int .u32 0, .int .u32 0, .int .u32 0, .int .u32 0, .int .u32 0, .int .u32 0, .int .u32 0, .int .u32 0, .int .u32 0, .int .u32 0, .int .u32 0, .int .u32 0, .int .u32 0, .int .u32 0, .int .u32 0]), Bn (.store 64 (.t 7) (.t 41))] [2, 3, 6, 7])
  (.seq (.seq (.reg [B 8 (.asg (.k (.c (.int .i64 0))))] [2, 3, 6, 7, 8])
  (.block 4 (.loop (.seq (.seq (.reg [B 42 (.mv (.t 8)), B 43 (.mv (.t 3)), B 44 (.len (.t 43)), B 45 (.bin .lt (.t 42) (.t 44))] [2, 3, 6, 7, 8, 45])
  (.cond (.t 45) .skip
  (.exit 4)))
  (.seq (.block 5 (.regd [Oo 48 (.load true 8 (.t 6)), Oo 49 (.mv (.t 3)), Oo 50 (.mv (.t 8)), Oo 51 (.mv (.t 8)), Oo 52 (.bin .add (.t 51) (.k (.c (.int .i64 64)))), Oo 53 (.slice 1 (.t 49) (some (.t 50)) (some (.t 52)) none), Oo 54 (.call 177 [(.t 48), (.t 53), (.t 7)]), On (.store 8 (.t 6) (.t 54))]
    (.fl 0 (.fl 1 (.fl 2 (.fl 3 (.fl 4 (.fl 5 (.ch 6 [] (.ch 7 [] .done)))))))) [2, 3, 6, 7, 8]))
  (.reg [B 46 (.mv (.t 8)), B 47 (.bin .add (.t 46) (.k (.c (.int .i64 64)))), B 8 (.asg (.t 47))] [2, 3, 6, 7, 8]))))))
  (.seq (.reg [B 9 (.alloc [.int .u8 0, .int .u8 0, .int .u8 0, .int .u8 0, .int .u8 0, .int .u8 0, .int .u8 0, .int .u8 0, .int .u8 0, .int .u8 0, .int .u8 0, .int .u8 0, .int .u8 0, .int .u8 0, .int .u8 0, .int .u8 0, .int .u8 0, .int .u8 0, .int .u8 0, .int .u8 0, .int .u8 0, .int .u8 0, .int .u8 0, .int .u8 0, .int .u8 0, .int .u8 0, .int .u8 0, .int .u8 0, .int .u8 0, .int .u8 0, .int .u8 0, .int .u8 0])] [2, 6, 9])
  (.seq (.seq (.reg [B 10 (.asg (.k (.c (.int .i64 0))))] [2, 6, 9, 10])
  (.block 6 (.loop (.seq (.seq (.reg [B 55 (.mv (.t 10)), B 56 (.bin .lt (.t 55) (.k (.c (.int .i64 32))))] [2, 6, 9, 10, 56])
  (.cond (.t 56) .skip
  (.exit 6)))
  (.seq (.block 7 (.reg [B 59 (.mv (.t 10)), B 60 (.mv (.t 10)), B 61 (.bin .quo (.t 60) (.k (.c (.int .i64 4)))), B 62 (.iarr 1 8 (.t 6) (.t 61)), B 63 (.load false 1 (.t 62)), B 64 (.mv (.t 10)), B 65 (.bin .rem (.t 64) (.k (.c (.int .i64 4)))), B 66 (.bin .mul (.k (.c (.int .i64 8))) (.t 65)), B 67 (.bin .sub (.k (.c (.int .i64 24))) (.t 66)), B 68 (.conv .u64 (.t 67)), B 69 (.bin .shr (.t 63) (.t 68)), B 70 (.conv .u8 (.t 69)), B 71 (.iarr 1 32 (.t 9) (.t 59)), Bn (.store 1 (.t 71) (.t 70))] [2, 6, 9, 10]))
  (.reg [B 57 (.mv (.t 10)), B 58 (.bin .add (.t 57) (.k (.c (.int .i64 1)))), B 10 (.asg (.t 58))] [2, 6, 9, 10]))))))
  (.seq (.reg [B 72 (.load true 32 (.t 9)), Bn (.store 32 (.t 2) (.t 72))] [2])
  .ret)))))))))))
def r155 : List ARes := [.cell 2 true 32]
theorem k155 : bChk Tryz.prog 155 Tryz.f155 1 c155 r155 = true := by kernel_rfl
theorem p155 : Tryz.prog.funcs[155]? = some Tryz.f155 := by kernel_rfl

/-- scrivener/block.nothing -/
def c156 : BCode :=
  (.seq (.reg [B 1 (.boxR (.t 0)), B 2 (.asg (.k (.c (.bool false))))] [1])
  (.seq (.reg [B 3 (.fadr 1 (.t 1)), B 4 (.load false 1 (.t 3)), B 5 (.bin .seq (.t 4) (.k (.c (.str [])))), B 6 (.mv (.t 5)), Bg 7 (.fadr 2 (.t 1)) 6 true, Bg 8 (.load false 1 (.t 7)) 6 true, Bg 9 (.fadr 3 (.t 1)) 6 true, Bg 10 (.load false 1 (.t 9)) 6 true, Bg 11 (.bin .or (.t 8) (.t 10)) 6 true, Bg 12 (.fadr 4 (.t 1)) 6 true, Bg 13 (.load false 1 (.t 12)) 6 true, Bg 14 (.bin .or (.t 11) (.t 13)) 6 true, Bg 15 (.bin .eq (.t 14) (.k (.c (.int .i64 0)))) 6 true, B 16 (.pick (.t 6) (.t 15) (.k (.c (.bool false)))), B 17 (.mv (.t 16)), Bg 18 (.fadr 5 (.t 1)) 17 true, Bg 19 (.load true 6 (.t 18)) 17 true, Bg 20 (.call 157 [(.t 19)]) 17 true, B 21 (.pick (.t 17) (.t 20) (.k (.c (.bool false)))), B 22 (.mv (.t 21)), Bg 23 (.fadr 11 (.t 1)) 22 true, Bg 24 (.load true 32 (.t 23)) 22 true, Bg 25 (.build [.int .u8 0, .int .u8 0, .int .u8 0, .int .u8 0, .int .u8 0, .int .u8 0, .int .u8 0, .int .u8 0, .int .u8 0, .int .u8 0, .int .u8 0, .int .u8 0, .int .u8 0, .int .u8 0, .int .u8 0, .int .u8 0, .int .u8 0, .int .u8 0, .int .u8 0, .int .u8 0, .int .u8 0, .int .u8 0, .int .u8 0, .int .u8 0, .int .u8 0, .int .u8 0, .int .u8 0, .int .u8 0, .int .u8 0, .int .u8 0, .int .u8 0, .int .u8 0] []) 22 true, Bg 26 (.aeq false (true, [.i .u8, .i .u8, .i .u8, .i .u8, .i .u8, .i .u8, .i .u8, .i .u8, .i .u8, .i .u8, .i .u8, .i .u8, .i .u8, .i .u8, .i .u8, .i .u8, .i .u8, .i .u8, .i .u8, .i .u8, .i .u8, .i .u8, .i .u8, .i .u8, .i .u8, .i .u8, .i .u8, .i .u8, .i .u8, .i .u8, .i .u8, .i .u8]) (.t 24) (.t 25)) 22 true, B 27 (.pick (.t 22) (.t 26) (.k (.c (.bool false)))), B 28 (.mv (.t 27)), Bg 29 (.fadr 43 (.t 1)) 28 true, Bg 30 (.load false 1 (.t 29)) 28 true, Bg 31 (.not (.t 30)) 28 true, B 32 (.pick (.t 28) (.t 31) (.k (.c (.bool false)))), B 33 (.mv (.t 32)), Bg 34 (.fadr 44 (.t 1)) 33 true, Bg 35 (.load true 2 (.t 34)) 33 true, Bg 36 (.build [.int .i64 0, .int .i64 0] []) 33 true, Bg 37 (.aeq false (true, [.i .i64, .i .i64]) (.t 35) (.t 36)) 33 true, B 38 (.pick (.t 33) (.t 37) (.k (.c (.bool false)))), B 2 (.asg (.t 38))] [2])
  .ret))
def r156 : List ARes := [.tmp 2]
theorem k156 : bChk Tryz.prog 156 Tryz.f156 1 c156 r156 = true := by kernel_rfl
theorem p156 : Tryz.prog.funcs[156]? = some Tryz.f156 := by kernel_rfl

/-- scrivener/block.blank -/
def c157 : BCode :=
  (.seq (.reg [B 1 (.boxR (.t 0)), B 2 (.asg (.k (.c (.bool false))))] [1])
  (.seq (.reg [B 3 (.fadr 0 (.t 1)), B 4 (.load false 1 (.t 3)), B 5 (.bin .eq (.t 4) (.k (.c (.int .i64 0)))), B 6 (.mv (.t 5)), Bg 7 (.fadr 1 (.t 1)) 6 true, Bg 8 (.load false 1 (.t 7)) 6 true, Bg 9 (.bin .eq (.t 8) (.k (.c (.int .i64 0)))) 6 true, B 10 (.pick (.t 6) (.t 9) (.k (.c (.bool false)))), B 11 (.mv (.t 10)), Bg 12 (.fadr 2 (.t 1)) 11 true, Bg 13 (.load false 1 (.t 12)) 11 true, Bg 14 (.bin .eq (.t 13) (.k (.c (.int .i64 0)))) 11 true, B 15 (.pick (.t 11) (.t 14) (.k (.c (.bool false)))), B 16 (.mv (.t 15)), Bg 17 (.fadr 3 (.t 1)) 16 true, Bg 18 (.load false 1 (.t 17)) 16 true, Bg 19 (.bin .seq (.t 18) (.k (.c (.str [])))) 16 true, B 20 (.pick (.t 16) (.t 19) (.k (.c (.bool false)))), B 21 (.mv (.t 20)), Bg 22 (.fadr 4 (.t 1)) 21 true, Bg 23 (.load false 1 (.t 22)) 21 true, Bg 24 (.len (.t 23)) 21 true, Bg 25 (.bin .eq (.t 24) (.k (.c (.int .i64 0)))) 21 true, B 26 (.pick (.t 21) (.t 25) (.k (.c (.bool false)))), B 27 (.mv (.t 26)), Bg 28 (.fadr 5 (.t 1)) 27 true, Bg 29 (.load false 1 (.t 28)) 27 true, Bg 30 (.len (.t 29)) 27 true, Bg 31 (.bin .eq (.t 30) (.k (.c (.int .i64 0)))) 27 true, B 32 (.pick (.t 27) (.t 31) (.k (.c (.bool false)))), B 2 (.asg (.t 32))] [2])
  .ret))
def r157 : List ARes := [.tmp 2]
theorem k157 : bChk Tryz.prog 157 Tryz.f157 1 c157 r157 = true := by kernel_rfl
theorem p157 : Tryz.prog.funcs[157]? = some Tryz.f157 := by kernel_rfl

/-- scrivener/digest.Leaf -/
def c158 : BCode :=
  (.seq (.reg [B 2 (.alloc [.int .u8 0, .int .u8 0, .int .u8 0, .int .u8 0, .int .u8 0, .int .u8 0, .int .u8 0, .int .u8 0, .int .u8 0, .int .u8 0, .int .u8 0, .int .u8 0, .int .u8 0, .int .u8 0, .int .u8 0, .int .u8 0, .int .u8 0, .int .u8 0, .int .u8 0, .int .u8 0, .int .u8 0, .int .u8 0, .int .u8 0, .int .u8 0, .int .u8 0, .int .u8 0, .int .u8 0, .int .u8 0, .int .u8 0, .int .u8 0, .int .u8 0, .int .u8 0])] [0, 2])
  (.seq (.reg [B 3 (.slR 1 1 [.int .u8 0] [(0, 1, (.k (.c (.int .u8 0))))]), B 4 (.mv (.t 0)), B 5 (.app 1 1 (.t 3) (.t 4)), B 6 (.call 178 [(.t 5)]), Bn (.store 32 (.t 2) (.t 6))] [2])
  .ret))
def r158 : List ARes := [.cell 2 true 32]
theorem k158 : bChk Tryz.prog 158 Tryz.f158 1 c158 r158 = true := by kernel_rfl
theorem p158 : Tryz.prog.funcs[158]? = some Tryz.f158 := by kernel_rfl

/-- scrivener/octet.Uvarint -/
def c159 : BCode :=
  (.seq (.reg [B 2 (.asg (.k (.c (.sl 1 [] .nil))))] [0])
  (.seq (.reg [B 3 (.asg (.k (.c (.sl 1 [] .nil))))] [0, 3])
  (.seq (.block 0 (.loop (.seq (.seq (.reg [B 4 (.mv (.t 0)), B 5 (.bin .ge (.t 4) (.k (.c (.int .u64 128))))] [0, 3, 5])
  (.cond (.t 5) .skip
  (.exit 0)))
  (.seq (.block 1 (.reg [B 8 (.mv (.t 3)), B 9 (.mv (.t 0)), B 10 (.conv .u8 (.t 9)), B 11 (.bin .or (.t 10) (.k (.c (.int .u8 128)))), B 12 (.slR 1 1 [.int .u8 0] [(0, 1, (.t 11))]), B 13 (.app 1 1 (.t 8) (.t 12)), B 3 (.asg (.t 13))] [0, 3]))
  (.reg [B 6 (.mv (.t 0)), B 7 (.bin .shr (.t 6) (.k (.c (.int .u64 7)))), B 0 (.asg (.t 7))] [0, 3])))))
  (.seq (.reg [B 14 (.mv (.t 3)), B 15 (.mv (.t 0)), B 16 (.conv .u8 (.t 15)), B 17 (.slR 1 1 [.int .u8 0] [(0, 1, (.t 16))]), B 18 (.app 1 1 (.t 14) (.t 17)), B 2 (.asg (.t 18))] [2])
  .ret))))
def r159 : List ARes := [.tmp 2]
theorem k159 : bChk Tryz.prog 159 Tryz.f159 1 c159 r159 = true := by kernel_rfl
theorem p159 : Tryz.prog.funcs[159]? = some Tryz.f159 := by kernel_rfl

/-- scrivener/codec.lay -/
def c160 : BCode :=
  (.seq (.reg [B 2 (.box (.t 0)), B 3 (.boxR (.t 1)), B 4 (.asg (.k (.c (.sl 1 [] .nil))))] [2, 3])
  (.seq (.reg [B 8 (.mkfn 179 [(.t 2)]), B 5 (.asg (.t 8))] [2, 3, 5])
  (.seq (.reg [B 9 (.load false 1 (.t 2)), B 10 (.fadr 0 (.t 3)), B 11 (.load false 1 (.t 10)), B 12 (.conv .u8 (.t 11)), B 13 (.slR 1 1 [.int .u8 0] [(0, 1, (.t 12))]), B 14 (.app 1 1 (.t 9) (.t 13)), Bn (.store 1 (.t 2) (.t 14))] [2, 3, 5])
  (.seq (.seq (.reg [B 15 (.fadr 0 (.t 3)), B 16 (.load false 1 (.t 15))] [2, 3, 5, 16])
  (.block 0 (.seq (.reg [B 18 (.bin .eq (.t 16) (.k (.c (.int .i64 2)))), B 17 (.asg (.t 18))] [2, 3, 5, 16, 17])
  (.cond (.t 17) (.reg [B 19 (.load false 1 (.t 2)), B 20 (.fadr 1 (.t 3)), B 21 (.load false 1 (.t 20)), B 22 (.conv .u8 (.t 21)), B 23 (.slR 1 1 [.int .u8 0] [(0, 1, (.t 22))]), B 24 (.app 1 1 (.t 19) (.t 23)), Bn (.store 1 (.t 2) (.t 24))] [2])
  (.seq (.reg [B 26 (.bin .eq (.t 16) (.k (.c (.int .i64 3)))), B 25 (.asg (.t 26))] [2, 3, 5, 16, 25])
  (.cond (.t 25) (.reg [B 27 (.mv (.t 5)), B 28 (.fadr 1 (.t 3)), B 29 (.load false 1 (.t 28)), B 30 (.call 180 [(.t 29)]), B 31 (.callv (.t 27) [(.t 30)])] [2])
  (.seq (.reg [B 33 (.bin .eq (.t 16) (.k (.c (.int .i64 4)))), B 32 (.asg (.t 33))] [2, 3, 5, 16, 32])
  (.cond (.t 32) (.seq (.reg [B 34 (.mv (.t 5)), B 35 (.fadr 1 (.t 3)), B 36 (.load false 1 (.t 35)), B 37 (.call 180 [(.t 36)]), B 38 (.callv (.t 34) [(.t 37)])] [2, 3])
  (.reg [B 39 (.load false 1 (.t 2)), B 40 (.fadr 2 (.t 3)), B 41 (.load false 1 (.t 40)), B 42 (.conv .u8 (.t 41)), B 43 (.slR 1 1 [.int .u8 0] [(0, 1, (.t 42))]), B 44 (.app 1 1 (.t 39) (.t 43)), Bn (.store 1 (.t 2) (.t 44))] [2]))
  (.seq (.reg [B 46 (.bin .eq (.t 16) (.k (.c (.int .i64 5)))), B 45 (.asg (.t 46))] [2, 3, 5, 16, 45])
  (.cond (.t 45) (.reg [B 47 (.mv (.t 5)), B 48 (.fadr 1 (.t 3)), B 49 (.load false 1 (.t 48)), B 50 (.conv .u64 (.t 49)), B 51 (.callv (.t 47) [(.t 50)])] [2])
  (.seq (.seq (.reg [B 53 (.bin .eq (.t 16) (.k (.c (.int .i64 6)))), B 52 (.asg (.t 53))] [2, 3, 5, 16, 52])
  (.cond (.t 52) .skip
  (.reg [B 54 (.bin .eq (.t 16) (.k (.c (.int .i64 7)))), B 52 (.asg (.t 54))] [2, 3, 5, 16, 52])))
  (.cond (.t 52) (.seq (.reg [B 55 (.mv (.t 5)), B 56 (.fadr 3 (.t 3)), B 57 (.load false 1 (.t 56)), B 58 (.slen (.t 57)), B 59 (.conv .u64 (.t 58)), B 60 (.callv (.t 55) [(.t 59)])] [2, 3])
  (.reg [B 61 (.load false 1 (.t 2)), B 62 (.fadr 3 (.t 3)), B 63 (.load false 1 (.t 62)), B 64 (.app 1 1 (.t 61) (.t 63)), Bn (.store 1 (.t 2) (.t 64))] [2]))
  (.seq (.seq (.reg [B 66 (.bin .eq (.t 16) (.k (.c (.int .i64 8)))), B 65 (.asg (.t 66))] [2, 3, 5, 16, 65])
  (.cond (.t 65) .skip
  (.reg [B 67 (.bin .eq (.t 16) (.k (.c (.int .i64 9)))), B 65 (.asg (.t 67))] [2, 3, 5, 65])))
  (.cond (.t 65) (.seq (.reg [B 68 (.mv (.t 5)), B 69 (.fadr 5 (.t 3)), B 70 (.load false 1 (.t 69)), B 71 (.len (.t 70)), B 72 (.conv .u64 (.t 71)), B 73 (.callv (.t 68) [(.t 72)])] [2, 3, 5])
  (.seq (.reg [B 74 (.fadr 5 (.t 3)), B 75 (.load false 1 (.t 74)), B 76 (.len (.t 75)), B 77 (.mv (.k (.c (.int .i64 0))))] [2, 3, 5, 75, 76, 77])
  (.block 1 (.loop (.seq (.reg [B 78 (.bin .lt (.t 77) (.t 76))] [2, 3, 5, 75, 76, 77, 78])
  (.seq (.cond (.t 78) .skip
  (.exit 1))
  (.seq (.block 2 (.seq (.reg [B 79 (.mv (.t 77)), B 80 (.iadr 6 (.t 75) (.t 77)), B 81 (.load true 6 (.t 80)), B 7 (.alloc [.int .i64 0, .int .i64 0, .int .i64 0, .str [], .sl 1 [] .nil, .sl 6 [] .nil]), B 6 (.asg (.t 79)), Bn (.store 6 (.t 7) (.t 81))] [2, 3, 5, 6, 7, 75, 76, 77])
  (.seq (.seq (.reg [B 82 (.fadr 0 (.t 3)), B 83 (.load false 1 (.t 82)), B 84 (.bin .eq (.t 83) (.k (.c (.int .i64 9))))] [2, 3, 5, 6, 7, 75, 76, 77, 84])
  (.cond (.t 84) (.seq (.reg [B 85 (.mv (.t 5)), B 86 (.fadr 4 (.t 3)), B 87 (.load false 1 (.t 86)), B 88 (.mv (.t 6)), B 89 (.iadr 1 (.t 87) (.t 88)), B 90 (.load false 1 (.t 89)), B 91 (.slen (.t 90)), B 92 (.conv .u64 (.t 91)), B 93 (.callv (.t 85) [(.t 92)])] [2, 3, 5, 6, 7, 75, 76, 77])
  (.regd [Oo 94 (.load false 1 (.t 2)), Oo 95 (.fadr 4 (.t 3)), Oo 96 (.load false 1 (.t 95)), Oo 97 (.mv (.t 6)), Oo 98 (.iadr 1 (.t 96) (.t 97)), Oo 99 (.load false 1 (.t 98)), Oo 100 (.app 1 1 (.t 94) (.t 99)), On (.store 1 (.t 2) (.t 100))]
    (.fl 0 (.fl 1 (.fl 2 (.fl 3 (.fl 4 (.fl 5 (.ch 6 [] (.ch 7 [] .done)))))))) [2, 3, 5, 7, 75, 76, 77]))
  .skip))
  (.reg [B 101 (.load false 1 (.t 2)), B 102 (.load true 6 (.t 7)), B 103 (.call 160 [(.t 101), (.t 102)]), Bn (.store 1 (.t 2) (.t 103))] [2, 3, 5, 75, 76, 77]))))
  (.reg [B 104 (.bin .add (.t 77) (.k (.c (.int .i64 1)))), B 77 (.mv (.t 104))] [2, 3, 5, 75, 76, 77]))))))))
  .skip))))))))))))))
  (.seq (.reg [B 105 (.load false 1 (.t 2)), B 4 (.asg (.t 105))] [4])
  .ret)))))
def r160 : List ARes := [.tmp 4]
theorem k160 : bChk Tryz.prog 160 Tryz.f160 2 c160 r160 = true := by kernel_rfl
theorem p160 : Tryz.prog.funcs[160]? = some Tryz.f160 := by kernel_rfl

/-- scrivener/scrivenerref11.plain -/
def c161 : BCode :=
  (.seq (.reg [B 2 (.boxR (.t 0)), B 3 (.boxR (.t 1)), B 4 (.asg (.k (.c (.bool false))))] [2, 3])
  (.seq (.reg [B 5 (.fadr 0 (.t 2)), B 6 (.load false 1 (.t 5)), B 7 (.fadr 0 (.t 3)), B 8 (.load false 1 (.t 7)), B 9 (.bin .eq (.t 6) (.t 8)), B 10 (.mv (.t 9)), Bg 11 (.fadr 1 (.t 2)) 10 true, Bg 12 (.load false 1 (.t 11)) 10 true, Bg 13 (.fadr 1 (.t 3)) 10 true, Bg 14 (.load false 1 (.t 13)) 10 true, Bg 15 (.bin .seq (.t 12) (.t 14)) 10 true, B 16 (.pick (.t 10) (.t 15) (.k (.c (.bool false)))), B 17 (.mv (.t 16)), Bg 18 (.fadr 2 (.t 2)) 17 true, Bg 19 (.load false 1 (.t 18)) 17 true, Bg 20 (.fadr 2 (.t 3)) 17 true, Bg 21 (.load false 1 (.t 20)) 17 true, Bg 22 (.bin .eq (.t 19) (.t 21)) 17 true, B 23 (.pick (.t 17) (.t 22) (.k (.c (.bool false)))), B 24 (.mv (.t 23)), Bg 25 (.fadr 3 (.t 2)) 24 true, Bg 26 (.load false 1 (.t 25)) 24 true, Bg 27 (.fadr 3 (.t 3)) 24 true, Bg 28 (.load false 1 (.t 27)) 24 true, Bg 29 (.bin .eq (.t 26) (.t 28)) 24 true, B 30 (.pick (.t 24) (.t 29) (.k (.c (.bool false)))), B 31 (.mv (.t 30)), Bg 32 (.fadr 4 (.t 2)) 31 true, Bg 33 (.load false 1 (.t 32)) 31 true, Bg 34 (.fadr 4 (.t 3)) 31 true, Bg 35 (.load false 1 (.t 34)) 31 true, Bg 36 (.bin .eq (.t 33) (.t 35)) 31 true, B 37 (.pick (.t 31) (.t 36) (.k (.c (.bool false)))), B 38 (.mv (.t 37)), Bg 39 (.fadr 11 (.t 2)) 38 true, Bg 40 (.load true 32 (.t 39)) 38 true, Bg 41 (.fadr 11 (.t 3)) 38 true, Bg 42 (.load true 32 (.t 41)) 38 true, Bg 43 (.aeq false (true, [.i .u8, .i .u8, .i .u8, .i .u8, .i .u8, .i .u8, .i .u8, .i .u8, .i .u8, .i .u8, .i .u8, .i .u8, .i .u8, .i .u8, .i .u8, .i .u8, .i .u8, .i .u8, .i .u8, .i .u8, .i .u8, .i .u8, .i .u8, .i .u8, .i .u8, .i .u8, .i .u8, .i .u8, .i .u8, .i .u8, .i .u8, .i .u8]) (.t 40) (.t 42)) 38 true, B 44 (.pick (.t 38) (.t 43) (.k (.c (.bool false)))), B 45 (.mv (.t 44)), Bg 46 (.fadr 43 (.t 2)) 45 true, Bg 47 (.load false 1 (.t 46)) 45 true, Bg 48 (.fadr 43 (.t 3)) 45 true, Bg 49 (.load false 1 (.t 48)) 45 true, Bg 50 (.bin .eqb (.t 47) (.t 49)) 45 true, B 51 (.pick (.t 45) (.t 50) (.k (.c (.bool false)))), B 52 (.mv (.t 51)), Bg 53 (.fadr 44 (.t 2)) 52 true, Bg 54 (.load true 2 (.t 53)) 52 true, Bg 55 (.fadr 44 (.t 3)) 52 true, Bg 56 (.load true 2 (.t 55)) 52 true, Bg 57 (.aeq false (true, [.i .i64, .i .i64]) (.t 54) (.t 56)) 52 true, B 58 (.pick (.t 52) (.t 57) (.k (.c (.bool false)))), B 59 (.mv (.t 58)), Bg 60 (.fadr 5 (.t 2)) 59 true, Bg 61 (.load true 6 (.t 60)) 59 true, Bg 62 (.call 162 [(.t 61)]) 59 true, B 63 (.pick (.t 59) (.t 62) (.k (.c (.bool false)))), B 4 (.asg (.t 63))] [4])
  .ret))
def r161 : List ARes := [.tmp 4]
theorem k161 : bChk Tryz.prog 161 Tryz.f161 2 c161 r161 = true := by kernel_rfl
theorem p161 : Tryz.prog.funcs[161]? = some Tryz.f161 := by kernel_rfl

/-- scrivener/scrivenerref11.empty -/
def c162 : BCode :=
  (.seq (.reg [B 1 (.boxR (.t 0)), B 2 (.asg (.k (.c (.bool false))))] [1])
  (.seq (.reg [B 3 (.load true 6 (.t 1)), B 4 (.build [.int .i64 0, .int .i64 0, .int .i64 0, .str [], .sl 1 [] .nil, .sl 6 [] .nil] []), B 5 (.call 67 [(.t 3), (.t 4)]), B 2 (.asg (.t 5))] [2])
  .ret))
def r162 : List ARes := [.tmp 2]
theorem k162 : bChk Tryz.prog 162 Tryz.f162 1 c162 r162 = true := by kernel_rfl
theorem p162 : Tryz.prog.funcs[162]? = some Tryz.f162 := by kernel_rfl

/-- scrivener/scrivenerref11.bare -/
def c163 : BCode :=
  (.seq (.reg [B 1 (.box (.t 0)), B 2 (.alloc [.int .i64 0, .str [], .int .i64 0, .int .i64 0, .int .i64 0, .int .i64 0, .int .i64 0, .int .i64 0, .str [], .sl 1 [] .nil, .sl 6 [] .nil, .int .u8 0, .int .u8 0, .int .u8 0, .int .u8 0, .int .u8 0, .int .u8 0, .int .u8 0, .int .u8 0, .int .u8 0, .int .u8 0, .int .u8 0, .int .u8 0, .int .u8 0, .int .u8 0, .int .u8 0, .int .u8 0, .int .u8 0, .int .u8 0, .int .u8 0, .int .u8 0, .int .u8 0, .int .u8 0, .int .u8 0, .int .u8 0, .int .u8 0, .int .u8 0, .int .u8 0, .int .u8 0, .int .u8 0, .int .u8 0, .int .u8 0, .int .u8 0, .bool false, .int .i64 0, .int .i64 0])] [1, 2])
  (.seq (.reg [B 3 (.build [.int .i64 0, .int .i64 0, .int .i64 0, .str [], .sl 1 [] .nil, .sl 6 [] .nil] []), B 4 (.fadr 5 (.t 1)), Bn (.store 6 (.t 4) (.t 3))] [1, 2])
  (.seq (.reg [B 5 (.load true 46 (.t 1)), Bn (.store 46 (.t 2) (.t 5))] [2])
  .ret)))
def r163 : List ARes := [.cell 2 true 46]
theorem k163 : bChk Tryz.prog 163 Tryz.f163 1 c163 r163 = true := by kernel_rfl
theorem p163 : Tryz.prog.funcs[163]? = some Tryz.f163 := by kernel_rfl

/-- scrivener/scrivenerref11.u -/
def c164 : BCode :=
  (.seq (.reg [B 2 (.asg (.k (.c (.sl 1 [] .nil))))] [0])
  (.seq (.reg [B 3 (.mv (.t 0)), B 4 (.call 130 [(.t 3)]), B 2 (.asg (.t 4))] [2])
  .ret))
def r164 : List ARes := [.tmp 2]
theorem k164 : bChk Tryz.prog 164 Tryz.f164 1 c164 r164 = true := by kernel_rfl
theorem p164 : Tryz.prog.funcs[164]? = some Tryz.f164 := by kernel_rfl

/-- scrivener/value.shape -/
def c168 : BCode :=
  (.seq (.reg [B 1 (.boxR (.t 0)), B 2 (.asg (.k (.c (.int .i64 0))))] [1])
  (.seq (.reg [B 6 (.fadr 1 (.t 1)), B 7 (.load false 1 (.t 6)), B 8 (.bin .eq (.t 7) (.k (.c (.int .i64 0)))), B 9 (.mv (.t 8)), Bg 10 (.fadr 2 (.t 1)) 9 true, Bg 11 (.load false 1 (.t 10)) 9 true, Bg 12 (.bin .eq (.t 11) (.k (.c (.int .i64 0)))) 9 true, B 13 (.pick (.t 9) (.t 12) (.k (.c (.bool false)))), B 3 (.asg (.t 13))] [1, 3])
  (.seq (.reg [B 14 (.fadr 4 (.t 1)), B 15 (.load false 1 (.t 14)), B 16 (.len (.t 15)), B 17 (.bin .eq (.t 16) (.k (.c (.int .i64 0)))), B 18 (.mv (.t 17)), Bg 19 (.fadr 5 (.t 1)) 18 true, Bg 20 (.load false 1 (.t 19)) 18 true, Bg 21 (.len (.t 20)) 18 true, Bg 22 (.bin .eq (.t 21) (.k (.c (.int .i64 0)))) 18 true, B 23 (.pick (.t 18) (.t 22) (.k (.c (.bool false)))), B 4 (.asg (.t 23))] [1, 3, 4])
  (.seq (.reg [B 5 (.asg (.k (.c (.bool false))))] [1, 3, 4, 5])
  (.seq (.seq (.reg [B 24 (.fadr 0 (.t 1)), B 25 (.load false 1 (.t 24))] [1, 3, 4, 5, 25])
  (.block 0 (.seq (.reg [B 27 (.bin .eq (.t 25) (.k (.c (.int .i64 1)))), B 26 (.asg (.t 27))] [1, 3, 4, 5, 25, 26])
  (.cond (.t 26) (.reg [B 28 (.mv (.t 3)), B 29 (.mv (.t 28)), Bg 30 (.mv (.t 4)) 29 true, B 31 (.pick (.t 29) (.t 30) (.k (.c (.bool false)))), B 32 (.mv (.t 31)), Bg 33 (.fadr 3 (.t 1)) 32 true, Bg 34 (.load false 1 (.t 33)) 32 true, Bg 35 (.bin .seq (.t 34) (.k (.c (.str [])))) 32 true, B 36 (.pick (.t 32) (.t 35) (.k (.c (.bool false)))), B 5 (.asg (.t 36))] [1, 5])
  (.seq (.reg [B 38 (.bin .eq (.t 25) (.k (.c (.int .i64 2)))), B 37 (.asg (.t 38))] [1, 3, 4, 5, 25, 37])
  (.cond (.t 37) (.reg [B 39 (.fadr 1 (.t 1)), B 40 (.load false 1 (.t 39)), B 41 (.bin .shr (.t 40) (.k (.c (.int .u64 1)))), B 42 (.bin .eq (.t 41) (.k (.c (.int .i64 0)))), B 43 (.mv (.t 42)), Bg 44 (.fadr 2 (.t 1)) 43 true, Bg 45 (.load false 1 (.t 44)) 43 true, Bg 46 (.bin .eq (.t 45) (.k (.c (.int .i64 0)))) 43 true, B 47 (.pick (.t 43) (.t 46) (.k (.c (.bool false)))), B 48 (.mv (.t 47)), Bg 49 (.mv (.t 4)) 48 true, B 50 (.pick (.t 48) (.t 49) (.k (.c (.bool false)))), B 51 (.mv (.t 50)), Bg 52 (.fadr 3 (.t 1)) 51 true, Bg 53 (.load false 1 (.t 52)) 51 true, Bg 54 (.bin .seq (.t 53) (.k (.c (.str [])))) 51 true, B 55 (.pick (.t 51) (.t 54) (.k (.c (.bool false)))), B 5 (.asg (.t 55))] [1, 5])
  (.seq (.reg [B 57 (.bin .eq (.t 25) (.k (.c (.int .i64 3)))), B 56 (.asg (.t 57))] [1, 3, 4, 5, 25, 56])
  (.cond (.t 56) (.reg [B 58 (.fadr 2 (.t 1)), B 59 (.load false 1 (.t 58)), B 60 (.bin .eq (.t 59) (.k (.c (.int .i64 0)))), B 61 (.mv (.t 60)), Bg 62 (.mv (.t 4)) 61 true, B 63 (.pick (.t 61) (.t 62) (.k (.c (.bool false)))), B 64 (.mv (.t 63)), Bg 65 (.fadr 3 (.t 1)) 64 true, Bg 66 (.load false 1 (.t 65)) 64 true, Bg 67 (.bin .seq (.t 66) (.k (.c (.str [])))) 64 true, B 68 (.pick (.t 64) (.t 67) (.k (.c (.bool false)))), B 5 (.asg (.t 68))] [1, 5])
  (.seq (.reg [B 70 (.bin .eq (.t 25) (.k (.c (.int .i64 4)))), B 69 (.asg (.t 70))] [1, 3, 4, 5, 25, 69])
  (.cond (.t 69) (.reg [B 71 (.fadr 2 (.t 1)), B 72 (.load false 1 (.t 71)), B 73 (.bin .ge (.t 72) (.k (.c (.int .i64 1)))), B 74 (.mv (.t 73)), Bg 75 (.fadr 2 (.t 1)) 74 true, Bg 76 (.load false 1 (.t 75)) 74 true, Bg 77 (.bin .le (.t 76) (.k (.c (.int .i64 18)))) 74 true, B 78 (.pick (.t 74) (.t 77) (.k (.c (.bool false)))), B 79 (.mv (.t 78)), Bg 80 (.fadr 1 (.t 1)) 79 true, Bg 81 (.load false 1 (.t 80)) 79 true, Bg 82 (.bin .rem (.t 81) (.k (.c (.int .i64 10)))) 79 true, Bg 83 (.bin .ne (.t 82) (.k (.c (.int .i64 0)))) 79 true, B 84 (.pick (.t 79) (.t 83) (.k (.c (.bool false)))), B 85 (.mv (.t 84)), Bg 86 (.mv (.t 4)) 85 true, B 87 (.pick (.t 85) (.t 86) (.k (.c (.bool false)))), B 88 (.mv (.t 87)), Bg 89 (.fadr 3 (.t 1)) 88 true, Bg 90 (.load false 1 (.t 89)) 88 true, Bg 91 (.bin .seq (.t 90) (.k (.c (.str [])))) 88 true, B 92 (.pick (.t 88) (.t 91) (.k (.c (.bool false)))), B 5 (.asg (.t 92))] [1, 5])
  (.seq (.reg [B 94 (.bin .eq (.t 25) (.k (.c (.int .i64 5)))), B 93 (.asg (.t 94))] [1, 3, 4, 5, 25, 93])
  (.cond (.t 93) (.reg [B 95 (.fadr 1 (.t 1)), B 96 (.load false 1 (.t 95)), B 97 (.bin .ge (.t 96) (.k (.c (.int .i64 0)))), B 98 (.mv (.t 97)), Bg 99 (.fadr 1 (.t 1)) 98 true, Bg 100 (.load false 1 (.t 99)) 98 true, Bg 101 (.bin .le (.t 100) (.k (.c (.int .i64 9007199254740992)))) 98 true, B 102 (.pick (.t 98) (.t 101) (.k (.c (.bool false)))), B 103 (.mv (.t 102)), Bg 104 (.fadr 2 (.t 1)) 103 true, Bg 105 (.load false 1 (.t 104)) 103 true, Bg 106 (.bin .eq (.t 105) (.k (.c (.int .i64 0)))) 103 true, B 107 (.pick (.t 103) (.t 106) (.k (.c (.bool false)))), B 108 (.mv (.t 107)), Bg 109 (.mv (.t 4)) 108 true, B 110 (.pick (.t 108) (.t 109) (.k (.c (.bool false)))), B 111 (.mv (.t 110)), Bg 112 (.fadr 3 (.t 1)) 111 true, Bg 113 (.load false 1 (.t 112)) 111 true, Bg 114 (.bin .seq (.t 113) (.k (.c (.str [])))) 111 true, B 115 (.pick (.t 111) (.t 114) (.k (.c (.bool false)))), B 5 (.asg (.t 115))] [1, 5])
  (.seq (.seq (.reg [B 117 (.bin .eq (.t 25) (.k (.c (.int .i64 6)))), B 116 (.asg (.t 117))] [1, 3, 4, 5, 25, 116])
  (.cond (.t 116) .skip
  (.reg [B 118 (.bin .eq (.t 25) (.k (.c (.int .i64 7)))), B 116 (.asg (.t 118))] [1, 3, 4, 5, 25, 116])))
  (.cond (.t 116) (.reg [B 119 (.mv (.t 3)), B 120 (.mv (.t 119)), Bg 121 (.mv (.t 4)) 120 true, B 122 (.pick (.t 120) (.t 121) (.k (.c (.bool false)))), B 5 (.asg (.t 122))] [1, 5])
  (.seq (.reg [B 124 (.bin .eq (.t 25) (.k (.c (.int .i64 8)))), B 123 (.asg (.t 124))] [1, 3, 5, 25, 123])
  (.cond (.t 123) (.reg [B 125 (.mv (.t 3)), B 126 (.mv (.t 125)), Bg 127 (.fadr 4 (.t 1)) 126 true, Bg 128 (.load false 1 (.t 127)) 126 true, Bg 129 (.len (.t 128)) 126 true, Bg 130 (.bin .eq (.t 129) (.k (.c (.int .i64 0)))) 126 true, B 131 (.pick (.t 126) (.t 130) (.k (.c (.bool false)))), B 132 (.mv (.t 131)), Bg 133 (.fadr 3 (.t 1)) 132 true, Bg 134 (.load false 1 (.t 133)) 132 true, Bg 135 (.bin .seq (.t 134) (.k (.c (.str [])))) 132 true, B 136 (.pick (.t 132) (.t 135) (.k (.c (.bool false)))), B 5 (.asg (.t 136))] [1, 5])
  (.seq (.reg [B 138 (.bin .eq (.t 25) (.k (.c (.int .i64 9)))), B 137 (.asg (.t 138))] [1, 3, 5, 137])
  (.cond (.t 137) (.reg [B 139 (.mv (.t 3)), B 140 (.mv (.t 139)), Bg 141 (.fadr 3 (.t 1)) 140 true, Bg 142 (.load false 1 (.t 141)) 140 true, Bg 143 (.bin .seq (.t 142) (.k (.c (.str [])))) 140 true, B 144 (.pick (.t 140) (.t 143) (.k (.c (.bool false)))), B 5 (.asg (.t 144))] [1, 5])
  .skip))))))))))))))))))
  (.seq (.block 1 (.seq (.reg [B 146 (.mv (.t 5)), B 147 (.not (.t 146)), B 145 (.asg (.t 147))] [1, 145])
  (.cond (.t 145) (.seq (.reg [B 2 (.asg (.k (.c (.int .i64 3))))] [2])
  .ret)
  (.seq (.reg [B 149 (.fadr 3 (.t 1)), B 150 (.load false 1 (.t 149)), B 151 (.slen (.t 150)), B 152 (.bin .gt (.t 151) (.k (.c (.int .i64 16384)))), B 153 (.mv (.t 152)), Bg 154 (.fadr 5 (.t 1)) 153 false, Bg 155 (.load false 1 (.t 154)) 153 false, Bg 156 (.len (.t 155)) 153 false, Bg 157 (.bin .gt (.t 156) (.k (.c (.int .i64 200)))) 153 false, B 158 (.pick (.t 153) (.k (.c (.bool true))) (.t 157)), B 148 (.asg (.t 158))] [1, 148])
  (.cond (.t 148) (.seq (.reg [B 2 (.asg (.k (.c (.int .i64 5))))] [2])
  .ret)
  (.seq (.reg [B 160 (.fadr 0 (.t 1)), B 161 (.load false 1 (.t 160)), B 162 (.bin .eq (.t 161) (.k (.c (.int .i64 9)))), B 163 (.mv (.t 162)), Bg 164 (.load true 6 (.t 1)) 163 true, Bg 165 (.call 181 [(.t 164)]) 163 true, Bg 166 (.not (.t 165)) 163 true, B 167 (.pick (.t 163) (.t 166) (.k (.c (.bool false)))), B 159 (.asg (.t 167))] [159])
  (.cond (.t 159) (.seq (.reg [B 2 (.asg (.k (.c (.int .i64 3))))] [2])
  .ret)
  .skip)))))))
  (.seq (.reg [B 2 (.asg (.k (.c (.int .i64 0))))] [2])
  .ret)))))))
def r168 : List ARes := [.tmp 2]
theorem k168 : bChk Tryz.prog 168 Tryz.f168 1 c168 r168 = true := by kernel_rfl
theorem p168 : Tryz.prog.funcs[168]? = some Tryz.f168 := by kernel_rfl

/-- scrivener/scrivenerref1.Zig -/
def c174 : BCode :=
  (.seq (.reg [B 2 (.asg (.k (.c (.int .u64 0))))] [0])
  (.seq (.seq (.reg [B 3 (.mv (.t 0)), B 4 (.bin .ge (.t 3) (.k (.c (.int .i64 0))))] [0, 4])
  (.cond (.t 4) (.seq (.reg [B 5 (.mv (.t 0)), B 6 (.conv .u64 (.t 5)), B 7 (.bin .mul (.k (.c (.int .u64 2))) (.t 6)), B 2 (.asg (.t 7))] [2])
  .ret)
  .skip))
  (.seq (.reg [B 8 (.mv (.t 0)), B 9 (.bin .add (.t 8) (.k (.c (.int .i64 1)))), B 10 (.neg (.t 9)), B 11 (.conv .u64 (.t 10)), B 12 (.bin .mul (.k (.c (.int .u64 2))) (.t 11)), B 13 (.bin .add (.t 12) (.k (.c (.int .u64 1)))), B 2 (.asg (.t 13))] [2])
  .ret)))
def r174 : List ARes := [.tmp 2]
theorem k174 : bChk Tryz.prog 174 Tryz.f174 1 c174 r174 = true := by kernel_rfl
theorem p174 : Tryz.prog.funcs[174]? = some Tryz.f174 := by kernel_rfl

/-- scrivener/scrivenerref7.text -/
def c175 : BCode :=
  (.seq (.reg [B 4 (.asg (.k (.c (.sl 1 [] .nil))))] [0, 1])
  (.seq (.reg [B 5 (.mv (.t 0)), B 6 (.mv (.t 1)), B 7 (.slen (.t 6)), B 8 (.conv .u64 (.t 7)), B 9 (.call 130 [(.t 8)]), B 10 (.app 1 1 (.t 5) (.t 9)), B 0 (.asg (.t 10))] [0, 1])
  (.seq (.reg [B 11 (.mv (.t 0)), B 12 (.mv (.t 1)), B 13 (.app 1 1 (.t 11) (.t 12)), B 4 (.asg (.t 13))] [4])
  .ret)))
def r175 : List ARes := [.tmp 4]
theorem k175 : bChk Tryz.prog 175 Tryz.f175 2 c175 r175 = true := by kernel_rfl
theorem p175 : Tryz.prog.funcs[175]? = some Tryz.f175 := by kernel_rfl

/-- scrivener/scrivenerref2.k -/
def c176 : BCode :=
  (.seq (.reg [B 0 (.alloc [.int .u32 0, .int .u32 0, .int .u32 0, .int .u32 0, .int .u32 0, .int .u32 0, .int .u32 0, .int .u32 0, .int .u32 0, .int .u32 0, .int .u32 0, .int .u32 0, .int .u32 0, .int .u32 0, .int .u32 0, .int .u32 0, .int .u32 0, .int .u32 0, .int .u32 0, .int .u32 0, .int .u32 0, .int .u32 0, .int .u32 0, .int .u32 0, .int .u32 0, .int .u32 0, .int .u32 0, .int .u32 0, .int .u32 0, .int .u32 0, .int .u32 0, .int .u32 0, .int .u32 0, .int .u32 0, .int .u32 0, .int .u32 0, .int .u32 0, .int .u32 0, .int .u32 0, .int .u32 0, .int .u32 0, .int .u32 0, .int .u32 0, .int .u32 0, .int .u32 0, .int .u32 0, .int .u32 0, .int .u32 0, .int .u32 0, .int .u32 0, .int .u32 0, .int .u32 0, .int .u32 0, .int .u32 0, .int .u32 0, .int .u32 0, .int .u32 0, .int .u32 0, .int .u32 0, .int .u32 0, .int .u32 0, .int .u32 0, .int .u32 0, .int .u32 0])] [0])
  (.seq (.reg [B 1 (.build [.int .u32 0, .int .u32 0, .int .u32 0, .int .u32 0, .int .u32 0, .int .u32 0, .int .u32 0, .int .u32 0, .int .u32 0, .int .u32 0, .int .u32 0, .int .u32 0, .int .u32 0, .int .u32 0, .int .u32 0, .int .u32 0, .int .u32 0, .int .u32 0, .int .u32 0, .int .u32 0, .int .u32 0, .int .u32 0, .int .u32 0, .int .u32 0, .int .u32 0, .int .u32 0, .int .u32 0, .int .u32 0, .int .u32 0, .int .u32 0, .int .u32 0, .int .u32 0, .int .u32 0, .int .u32 0, .int .u32 0, .int .u32 0, .int .u32 0, .int .u32 0, .int .u32 0, .int .u32 0, .int .u32 0, .int .u32 0, .int .u32 0, .int .u32 0, .int .u32 0, .int .u32 0, .int .u32 0, .int .u32 0, .int .u32 0, .int .u32 0, .int .u32 0, .int .u32 0, .int .u32 0, .int .u32 0, .int .u32 0, .int .u32 0, .int .u32 0, .int .u32 0, .int .u32 0, .int .u32 0, .int .u32 0, .int .u32 0, .int .u32 0, .int .u32 0] [(0, 1, (.k (.c (.int .u32 1116352408)))), (1, 1, (.k (.c (.int .u32 1899447441)))), (2, 1, (.k (.c (.int .u32 3049323471)))), (3, 1, (.k (.c (.int .u32 3921009573)))), (4, 1, (.k (.c (.int .u32 961987163)))), (5, 1, (.k (.c (.int .u32 1508970993)))), (6, 1, (.k (.c (.int .u32 2453635748)))), (7, 1, (.k (.c (.int .u32 2870763221)))), (8, 1, (.k (.c (.int .u32 3624381080)))), (9, 1, (.k (.c (.int .u32 310598401)))), (10, 1, (.k (.c (.int .u32 607225278)))), (11, 1, (.k (.c (.int .u32 1426881987)))), (12, 1, (.k (.c (.int .u32 1925078388)))), (13, 1, (.k (.c (.int .u32 2162078206)))), (14, 1, (.k (.c (.int .u32 2614888103)))), (15, 1, (.k (.c (.int .u32 3248222580)))), (16, 1, (.k (.c (.int .u32 3835390401)))), (17, 1, (.k (.c (.int .u32 4022224774)))), (18, 1, (.k (.c (.int .u32 264347078)))), (19, 1, (.k (.c (.int .u32 604807628)))), (20, 1, (.k (.c (.int .u32 770255983)))), (21, 1, (.k (.c (.int .u32 1249150122)))), (22, 1, (.k (.c (.int .u32 1555081692)))), (23, 1, (.k (.c (.int .u32 1996064986)))), (24, 1, (.k (.c (.int .u32 2554220882)))), (25, 1, (.k (.c (.int .u32 2821834349)))), (26, 1, (.k (.c (.int .u32 2952996808)))), (27, 1, (.k (.c (.int .u32 3210313671)))), (28, 1, (.k (.c (.int .u32 3336571891)))), (29, 1, (.k (.c (.int .u32 3584528711)))), (30, 1, (.k (.c (.int .u32 113926993)))), (31, 1, (.k (.c (.int .u32 338241895)))), (32, 1, (.k (.c (.int .u32 666307205)))), (33, 1, (.k (.c (.int .u32 773529912)))), (34, 1, (.k (.c (.int .u32 1294757372)))), (35, 1, (.k (.c (.int .u32 1396182291)))), (36, 1, (.k (.c (.int .u32 1695183700)))), (37, 1, (.k (.c (.int .u32 1986661051)))), (38, 1, (.k (.c (.int .u32 2177026350)))), (39, 1, (.k (.c (.int .u32 2456956037)))), (40, 1, (.k (.c (.int .u32 2730485921)))), (41, 1, (.k (.c (.int .u32 2820302411)))), (42, 1, (.k (.c (.int .u32 3259730800)))), (43, 1, (.k (.c (.int .u32 3345764771)))), (44, 1, (.k (.c (.int .u32 3516065817)))), (45, 1, (.k (.c (.int .u32 3600352804)))), (46, 1, (.k (.c (.int .u32 4094571909)))), (47, 1, (.k (.c (.int .u32 275423344)))), (48, 1, (.k (.c (.int .u32 430227734)))), (49, 1, (.k (.c (.int .u32 506948616)))), (50, 1, (.k (.c (.int .u32 659060556)))), (51, 1, (.k (.c (.int .u32 883997877)))), (52, 1, (.k (.c (.int .u32 958139571)))), (53, 1, (.k (.c (.int .u32 1322822218)))), (54, 1, (.k (.c (.int .u32 1537002063)))), (55, 1, (.k (.c (.int .u32 1747873779)))), (56, 1, (.k (.c (.int .u32 1955562222)))), (57, 1, (.k (.c (.int .u32 2024104815)))), (58, 1, (.k (.c (.int .u32 2227730452)))), (59, 1, (.k (.c (.int .u32 2361852424)))), (60, 1, (.k (.c (.int .u32 2428436474)))), (61, 1, (.k (.c (.int .u32 2756734187)))), (62, 1, (.k (.c (.int .u32 3204031479)))), (63, 1, (.k (.c (.int .u32 3329325298))))]), Bn (.store 64 (.t 0) (.t 1))] [0])
  .ret))
def r176 : List ARes := [.cell 0 true 64]
theorem k176 : bChk Tryz.prog 176 Tryz.f176 0 c176 r176 = true := by kernel_rfl
theorem p176 : Tryz.prog.funcs[176]? = some Tryz.f176 := by kernel_rfl

/-- scrivener/scrivenerref2.block -/
def c177 : BCode :=
  (.seq (.reg [B 3 (.box (.t 0)), B 6 (.alloc [.int .u32 0, .int .u32 0, .int .u32 0, .int .u32 0, .int .u32 0, .int .u32 0, .int .u32 0, .int .u32 0])] [1, 2, 3, 6])
  (.seq (.reg [B 7 (.alloc [.int .u32 0, .int .u32 0, .int .u32 0, .int .u32 0, .int .u32 0, .int .u32 0, .int .u32 0, .int .u32 0, .int .u32 0, .int .u32 0, .int .u32 0, .int .u32 0, .int .u32 0, .int .u32 0, .int .u32 0, .int .u32 0, .int .u32 0, .int .u32 0, .int .u32 0, .int .u32 0, .int .u32 0, .int .u32 0, .int .u32 0, .int .u32 0, .int .u32 0, .int .u32 0, .int .u32 0, .int .u32 0, .int .u32 0, .int .u32 0, .int .u32 0, .int .u32 0, .int .u32 0, .int .u32 0, .int .u32 0, .int .u32 0, .int .u32 0, .int .u32 0, .int .u32 0, .int .u32 0, .int .u32 0, .int .u32 0, .int .u32 0, .int .u32 0, .int .u32 0, .int .u32 0, .int .u32 0, .int .u32 0, .int .u32 0, .int .u32 0, .int .u32 0, .int .u32 0, .int .u32 0, .int .u32 0, .int .u32 0, .int .u32 0, .int .u32 0, .int .u32 0, .int .u32 0, .int .u32 0, .int .u32 0, .int .u32 0, .int .u32 0, .int .u32 0])] [1, 2, 3, 6, 7])
  (.seq (.seq (.reg [B 8 (.asg (.k (.c (.int .i64 0))))] [1, 2, 3, 6, 7, 8])
  (.block 0 (.loop (.seq (.seq (.reg [B 19 (.mv (.t 8)), B 20 (.bin .lt (.t 19) (.k (.c (.int .i64 16))))] [1, 2, 3, 6, 7, 8, 20])
  (.cond (.t 20) .skip
  (.exit 0)))
  (.seq (.block 1 (.regd [Oo 23 (.mv (.t 8)), Oo 24 (.mv (.t 1)), Oo 25 (.mv (.t 8)), Oo 26 (.bin .mul (.k (.c (.int .i64 4))) (.t 25)), Oo 27 (.iadr 1 (.t 24) (.t 26)), Oo 28 (.load false 1 (.t 27)), Oo 29 (.conv .u32 (.t 28)), Oo 30 (.bin .shl (.t 29) (.k (.c (.int .u64 24)))), Oo 31 (.mv (.t 1)), Oo 32 (.mv (.t 8)), Oo 33 (.bin .mul (.k (.c (.int .i64 4))) (.t 32)), Oo 34 (.bin .add (.t 33) (.k (.c (.int .i64 1)))), Oo 35 (.iadr 1 (.t 31) (.t 34)), Oo 36 (.load false 1 (.t 35)), Oo 37 (.conv .u32 (.t 36)), Oo 38 (.bin .shl (.t 37) (.k (.c (.int .u64 16)))), Oo 39 (.bin .or (.t 30) (.t 38)), Oo 40 (.mv (.t 1)), Oo 41 (.mv (.t 8)), Oo 42 (.bin .mul (.k (.c (.int .i64 4))) (.t 41)), Oo 43 (.bin .add (.t 42) (.k (.c (.int .i64 2)))), Oo 44 (.iadr 1 (.t 40) (.t 43)), Oo 45 (.load false 1 (.t 44)), Oo 46 (.conv .u32 (.t 45)), Oo 47 (.bin .shl (.t 46) (.k (.c (.int .u64 8)))), Oo 48 (.bin .or (.t 39) (.t 47)), Oo 49 (.mv (.t 1)), Oo 50 (.mv (.t 8)), Oo 51 (.bin .mul (.k (.c (.int .i64 4))) (.t 50)), Oo 52 (.bin .add (.t 51) (.k (.c (.int .i64 3)))), Oo 53 (.iadr 1 (.t 49) (.t 52)), Oo 54 (.load false 1 (.t 53)), Oo 55 (.conv .u32 (.t 54)), Oo 56 (.bin .or (.t 48) (.t 55)), Oo 57 (.iarr 1 64 (.t 7) (.t 23)), On (.store 1 (.t 57) (.t 56))]
    (.fl 0 (.fl 1 (.fl 2 (.fl 3 (.fl 4 (.fl 5 (.fl 6 (.fl 7 (.fl 8 (.fl 9 (.fl 10 (.fl 11 (.fl 12 (.fl 13 (.fl 14 (.fl 15 (.fl 16 (.fl 17 (.fl 18 (.fl 19 (.fl 20 (.fl 21 (.fl 22 (.fl 23 (.fl 24 (.fl 25 (.fl 26 (.fl 27 (.fl 28 (.fl 29 (.fl 30 (.fl 31 (.fl 32 (.fl 33 (.fl 34 (.ch 35 [] .done)))))))))))))))))))))))))))))))))))) [1, 2, 3, 6, 7, 8]))
  (.reg [B 21 (.mv (.t 8)), B 22 (.bin .add (.t 21) (.k (.c (.int .i64 1)))), B 8 (.asg (.t 22))] [1, 2, 3, 6, 7, 8]))))))
  (.seq (.seq (.reg [B 9 (.asg (.k (.c (.int .i64 16))))] [2, 3, 6, 7, 9])
  (.block 2 (.loop (.seq (.seq (.reg [B 58 (.mv (.t 9)), B 59 (.bin .lt (.t 58) (.k (.c (.int .i64 64))))] [2, 3, 6, 7, 9, 59])
  (.cond (.t 59) .skip
  (.exit 2)))
  (.seq (.block 3 (.seq (.reg [B 62 (.mv (.t 9)), B 63 (.bin .sub (.t 62) (.k (.c (.int .i64 15)))), B 64 (.iarr 1 64 (.t 7) (.t 63)), B 65 (.load false 1 (.t 64)), B 10 (.asg (.t 65))] [2, 3, 6, 7, 9, 10])
  (.seq (.reg [B 66 (.mv (.t 9)), B 67 (.bin .sub (.t 66) (.k (.c (.int .i64 2)))), B 68 (.iarr 1 64 (.t 7) (.t 67)), B 69 (.load false 1 (.t 68)), B 11 (.asg (.t 69))] [2, 3, 6, 7, 9, 10, 11])
  (.regd [Oo 70 (.mv (.t 9)), Oo 71 (.mv (.t 9)), Oo 72 (.bin .sub (.t 71) (.k (.c (.int .i64 16)))), Oo 73 (.iarr 1 64 (.t 7) (.t 72)), Oo 74 (.load false 1 (.t 73)), Oo 75 (.mv (.t 10)), Oo 76 (.call 182 [(.t 75), (.k (.c (.int .u64 7)))]), Oo 77 (.mv (.t 10)), Oo 78 (.call 182 [(.t 77), (.k (.c (.int .u64 18)))]), Oo 79 (.bin .xor (.t 76) (.t 78)), Oo 80 (.mv (.t 10)), Oo 81 (.bin .shr (.t 80) (.k (.c (.int .u64 3)))), Oo 82 (.bin .xor (.t 79) (.t 81)), Oo 83 (.bin .add (.t 74) (.t 82)), Oo 84 (.mv (.t 9)), Oo 85 (.bin .sub (.t 84) (.k (.c (.int .i64 7)))), Oo 86 (.iarr 1 64 (.t 7) (.t 85)), Oo 87 (.load false 1 (.t 86)), Oo 88 (.bin .add (.t 83) (.t 87)), Oo 89 (.mv (.t 11)), Oo 90 (.call 182 [(.t 89), (.k (.c (.int .u64 17)))]), Oo 91 (.mv (.t 11)), Oo 92 (.call 182 [(.t 91), (.k (.c (.int .u64 19)))]), Oo 93 (.bin .xor (.t 90) (.t 92)), Oo 94 (.mv (.t 11)), Oo 95 (.bin .shr (.t 94) (.k (.c (.int .u64 10)))), Oo 96 (.bin .xor (.t 93) (.t 95)), Oo 97 (.bin .add (.t 88) (.t 96)), Oo 98 (.iarr 1 64 (.t 7) (.t 70)), On (.store 1 (.t 98) (.t 97))]
    (.fl 0 (.fl 1 (.fl 2 (.fl 3 (.fl 4 (.fl 5 (.fl 7 (.fl 10 (.fl 11 (.fl 14 (.fl 15 (.fl 16 (.fl 17 (.fl 19 (.fl 21 (.fl 24 (.fl 25 (.ch 6 [4, 17] (.ch 8 [4, 17] (.fl 9 (.fl 12 (.fl 13 (.fl 18 (.ch 20 [4, 17] (.ch 22 [4, 17] (.fl 23 (.fl 26 (.fl 27 (.fl 28 (.ch 29 [] .done)))))))))))))))))))))))))))))) [2, 3, 6, 7, 9]))))
  (.reg [B 60 (.mv (.t 9)), B 61 (.bin .add (.t 60) (.k (.c (.int .i64 1)))), B 9 (.asg (.t 61))] [2, 3, 6, 7, 9]))))))
  (.seq (.reg [B 99 (.load true 8 (.t 3)), B 12 (.alloc [.int .u32 0, .int .u32 0, .int .u32 0, .int .u32 0, .int .u32 0, .int .u32 0, .int .u32 0, .int .u32 0]), Bn (.store 8 (.t 12) (.t 99))] [2, 3, 6, 7, 12])
  (.seq (.seq (.reg [B 13 (.asg (.k (.c (.int .i64 0))))] [2, 3, 6, 7, 12, 13])
  (.block 4 (.loop (.seq (.seq (.reg [B 100 (.mv (.t 13)), B 101 (.bin .lt (.t 100) (.k (.c (.int .i64 64))))] [2, 3, 6, 7, 12, 13, 101])
  (.cond (.t 101) .skip
  (.exit 4)))
  (.seq (.block 5 (.seq (.regd [Oo 104 (.iarr 1 8 (.t 12) (.k (.c (.int .i64 0)))), Oo 105 (.load false 1 (.t 104)), Oo 106 (.iarr 1 8 (.t 12) (.k (.c (.int .i64 4)))), Oo 107 (.load false 1 (.t 106)), Oo 14 (.asg (.t 105)), Oo 15 (.asg (.t 107))]
    (.fl 0 (.fl 1 (.fl 2 (.fl 3 (.ch 4 [3] (.ch 5 [] .done)))))) [2, 3, 6, 7, 12, 13, 14, 15])
  (.seq (.regd [Oo 108 (.iarr 1 8 (.t 12) (.k (.c (.int .i64 7)))), Oo 109 (.load false 1 (.t 108)), Oo 110 (.mv (.t 15)), Oo 111 (.call 182 [(.t 110), (.k (.c (.int .u64 6)))]), Oo 112 (.mv (.t 15)), Oo 113 (.call 182 [(.t 112), (.k (.c (.int .u64 11)))]), Oo 114 (.bin .xor (.t 111) (.t 113)), Oo 115 (.mv (.t 15)), Oo 116 (.call 182 [(.t 115), (.k (.c (.int .u64 25)))]), Oo 117 (.bin .xor (.t 114) (.t 116)), Oo 118 (.bin .add (.t 109) (.t 117)), Oo 119 (.mv (.t 15)), Oo 120 (.iarr 1 8 (.t 12) (.k (.c (.int .i64 5)))), Oo 121 (.load false 1 (.t 120)), Oo 122 (.bin .and (.t 119) (.t 121)), Oo 123 (.mv (.t 15)), Oo 124 (.inv (.t 123)), Oo 125 (.iarr 1 8 (.t 12) (.k (.c (.int .i64 6)))), Oo 126 (.load false 1 (.t 125)), Oo 127 (.bin .and (.t 124) (.t 126)), Oo 128 (.bin .xor (.t 122) (.t 127)), Oo 129 (.bin .add (.t 118) (.t 128)), Oo 130 (.mv (.t 2)), Oo 131 (.mv (.t 13)), Oo 132 (.nilck (.t 130)), Oo 133 (.iarr 1 64 (.t 132) (.t 131)), Oo 134 (.load false 1 (.t 133)), Oo 135 (.bin .add (.t 129) (.t 134)), Oo 136 (.mv (.t 13)), Oo 137 (.iarr 1 64 (.t 7) (.t 136)), Oo 138 (.load false 1 (.t 137)), Oo 139 (.bin .add (.t 135) (.t 138)), Oo 16 (.asg (.t 139))]
    (.fl 0 (.fl 1 (.fl 2 (.fl 4 (.fl 7 (.fl 11 (.fl 12 (.fl 13 (.fl 14 (.fl 15 (.fl 16 (.fl 17 (.fl 18 (.fl 19 (.fl 20 (.fl 22 (.fl 23 (.fl 24 (.fl 25 (.fl 26 (.fl 28 (.fl 29 (.fl 30 (.ch 3 [1, 13, 18, 26, 30] (.ch 5 [1, 13, 18, 26, 30] (.fl 6 (.ch 8 [1, 13, 18, 26, 30] (.fl 9 (.fl 10 (.fl 21 (.fl 27 (.fl 31 (.ch 32 [] .done))))))))))))))))))))))))))))))))) [2, 3, 6, 7, 12, 13, 14, 15, 16])
  (.seq (.regd [Oo 140 (.mv (.t 14)), Oo 141 (.call 182 [(.t 140), (.k (.c (.int .u64 2)))]), Oo 142 (.mv (.t 14)), Oo 143 (.call 182 [(.t 142), (.k (.c (.int .u64 13)))]), Oo 144 (.bin .xor (.t 141) (.t 143)), Oo 145 (.mv (.t 14)), Oo 146 (.call 182 [(.t 145), (.k (.c (.int .u64 22)))]), Oo 147 (.bin .xor (.t 144) (.t 146)), Oo 148 (.mv (.t 14)), Oo 149 (.iarr 1 8 (.t 12) (.k (.c (.int .i64 1)))), Oo 150 (.load false 1 (.t 149)), Oo 151 (.bin .and (.t 148) (.t 150)), Oo 152 (.mv (.t 14)), Oo 153 (.iarr 1 8 (.t 12) (.k (.c (.int .i64 2)))), Oo 154 (.load false 1 (.t 153)), Oo 155 (.bin .and (.t 152) (.t 154)), Oo 156 (.bin .xor (.t 151) (.t 155)), Oo 157 (.iarr 1 8 (.t 12) (.k (.c (.int .i64 1)))), Oo 158 (.load false 1 (.t 157)), Oo 159 (.iarr 1 8 (.t 12) (.k (.c (.int .i64 2)))), Oo 160 (.load false 1 (.t 159)), Oo 161 (.bin .and (.t 158) (.t 160)), Oo 162 (.bin .xor (.t 156) (.t 161)), Oo 163 (.bin .add (.t 147) (.t 162)), Oo 17 (.asg (.t 163))]
    (.fl 0 (.fl 2 (.fl 5 (.fl 8 (.fl 9 (.fl 10 (.fl 11 (.fl 12 (.fl 13 (.fl 14 (.fl 15 (.fl 16 (.fl 17 (.fl 18 (.fl 19 (.fl 20 (.fl 21 (.fl 22 (.ch 1 [10, 14, 18, 20] (.ch 3 [10, 14, 18, 20] (.fl 4 (.ch 6 [10, 14, 18, 20] (.fl 7 (.fl 23 (.ch 24 [] .done))))))))))))))))))))))))) [2, 3, 6, 7, 12, 13, 14, 15, 16, 17])
  (.reg [B 164 (.mv (.t 16)), B 165 (.mv (.t 17)), B 166 (.bin .add (.t 164) (.t 165)), B 167 (.mv (.t 14)), B 168 (.iarr 1 8 (.t 12) (.k (.c (.int .i64 1)))), B 169 (.load false 1 (.t 168)), B 170 (.iarr 1 8 (.t 12) (.k (.c (.int .i64 2)))), B 171 (.load false 1 (.t 170)), B 172 (.iarr 1 8 (.t 12) (.k (.c (.int .i64 3)))), B 173 (.load false 1 (.t 172)), B 174 (.mv (.t 16)), B 175 (.bin .add (.t 173) (.t 174)), B 176 (.mv (.t 15)), B 177 (.iarr 1 8 (.t 12) (.k (.c (.int .i64 5)))), B 178 (.load false 1 (.t 177)), B 179 (.iarr 1 8 (.t 12) (.k (.c (.int .i64 6)))), B 180 (.load false 1 (.t 179)), B 181 (.build [.int .u32 0, .int .u32 0, .int .u32 0, .int .u32 0, .int .u32 0, .int .u32 0, .int .u32 0, .int .u32 0] [(0, 1, (.t 166)), (1, 1, (.t 167)), (2, 1, (.t 169)), (3, 1, (.t 171)), (4, 1, (.t 175)), (5, 1, (.t 176)), (6, 1, (.t 178)), (7, 1, (.t 180))]), Bn (.store 8 (.t 12) (.t 181))] [2, 3, 6, 7, 12, 13])))))
  (.reg [B 102 (.mv (.t 13)), B 103 (.bin .add (.t 102) (.k (.c (.int .i64 1)))), B 13 (.asg (.t 103))] [2, 3, 6, 7, 12, 13]))))))
  (.seq (.seq (.reg [B 18 (.asg (.k (.c (.int .i64 0))))] [3, 6, 12, 18])
  (.block 6 (.loop (.seq (.seq (.reg [B 182 (.mv (.t 18)), B 183 (.bin .lt (.t 182) (.k (.c (.int .i64 8))))] [3, 6, 12, 18, 183])
  (.cond (.t 183) .skip
  (.exit 6)))
  (.seq (.block 7 (.regd [Oo 186 (.mv (.t 18)), Oo 187 (.mv (.t 18)), Oo 188 (.iarr 1 8 (.t 3) (.t 187)), Oo 189 (.load false 1 (.t 188)), Oo 190 (.mv (.t 18)), Oo 191 (.iarr 1 8 (.t 12) (.t 190)), Oo 192 (.load false 1 (.t 191)), Oo 193 (.bin .add (.t 189) (.t 192)), Oo 194 (.iarr 1 8 (.t 3) (.t 186)), On (.store 1 (.t 194) (.t 193))]
    (.fl 0 (.fl 1 (.fl 2 (.fl 3 (.fl 4 (.fl 5 (.fl 6 (.fl 7 (.fl 8 (.ch 9 [] .done)))))))))) [3, 6, 12, 18]))
  (.reg [B 184 (.mv (.t 18)), B 185 (.bin .add (.t 184) (.k (.c (.int .i64 1)))), B 18 (.asg (.t 185))] [3, 6, 12, 18]))))))
  (.seq (.reg [B 195 (.load true 8 (.t 3)), Bn (.store 8 (.t 6) (.t 195))] [6])
  .ret))))))))
def r177 : List ARes := [.cell 6 true 8]
theorem k177 : bChk Tryz.prog 177 Tryz.f177 3 c177 r177 = true := by kernel_rfl
theorem p177 : Tryz.prog.funcs[177]? = some Tryz.f177 := by kernel_rfl

/-- scrivener/digest.Sum -/
def c178 : BCode :=
  (.seq (.reg [B 2 (.alloc [.int .u8 0, .int .u8 0, .int .u8 0, .int .u8 0, .int .u8 0, .int .u8 0, .int .u8 0, .int .u8 0, .int .u8 0, .int .u8 0, .int .u8 0, .int .u8 0, .int .u8 0, .int .u8 0, .int .u8 0, .int .u8 0, .int .u8 0, .int .u8 0, .int .u8 0, .int .u8 0, .int .u8 0, .int .u8 0, .int .u8 0, .int .u8 0, .int .u8 0, .int .u8 0, .int .u8 0, .int .u8 0, .int .u8 0, .int .u8 0, .int .u8 0, .int .u8 0])] [0, 2])
  (.seq (.reg [B 14 (.build [.int .u32 0, .int .u32 0, .int .u32 0, .int .u32 0, .int .u32 0, .int .u32 0, .int .u32 0, .int .u32 0] [(0, 1, (.k (.c (.int .u32 1779033703)))), (1, 1, (.k (.c (.int .u32 3144134277)))), (2, 1, (.k (.c (.int .u32 1013904242)))), (3, 1, (.k (.c (.int .u32 2773480762)))), (4, 1, (.k (.c (.int .u32 1359893119)))), (5, 1, (.k (.c (.int .u32 2600822924)))), (6, 1, (.k (.c (.int .u32 528734635)))), (7, 1, (.k (.c (.int .u32 1541459225))))]), B 3 (.alloc [.int .u32 0, .int .u32 0, .int .u32 0, .int .u32 0, .int .u32 0, .int .u32 0, .int .u32 0, .int .u32 0]), Bn (.store 8 (.t 3) (.t 14))] [0, 2, 3])
  (.seq (.reg [B 15 (.call 183 []), B 4 (.alloc [.int .u32 0, .int .u32 0, .int .u32 0, .int .u32 0, .int .u32 0, .int .u32 0, .int .u32 0, .int .u32 0, .int .u32 0, .int .u32 0, .int .u32 0, .int .u32 0, .int .u32 0, .int .u32 0, .int .u32 0, .int .u32 0, .int .u32 0, .int .u32 0, .int .u32 0, .int .u32 0, .int .u32 0, .int .u32 0, .int .u32 0, .int .u32 0, .int .u32 0, .int .u32 0, .int .u32 0, .int .u32 0, .int .u32 0, .int .u32 0, .int .u32 0, .int .u32 0, .int .u32 0, .int .u32 0, .int .u32 0, .int .u32 0, .int .u32 0, .int .u32 0, .int .u32 0, .int .u32 0, .int .u32 0, .int .u32 0, .int .u32 0, .int .u32 0, .int .u32 0, .int .u32 0, .int .u32 0, .int .u32 0, .int .u32 0, .int .u32 0, .int .u32 0, .int .u32 0, .int .u32 0, .int .u32 0, .int .u32 0, .int .u32 0, .int .u32 0, .int .u32 0, .int .u32 0, .int .u32 0, .int .u32 0, .int .u32 0, .int .u32 0, .int .u32 0]), Bn (.store 64 (.t 4) (.t 15))] [0, 2, 3, 4])
  (.seq (.reg [B 16 (.mv (.t 0)), B 5 (.asg (.t 16))] [0, 2, 3, 4, 5])
  (.seq (.block 0 (.loop (.seq (.seq (.reg [B 17 (.mv (.t 5)), B 18 (.len (.t 17)), B 19 (.bin .ge (.t 18) (.k (.c (.int .i64 64))))] [0, 2, 3, 4, 5, 19])
  (.cond (.t 19) .skip
  (.exit 0)))
  (.seq (.block 1 (.reg [B 22 (.mv (.t 5)), B 23 (.call 184 [(.t 3), (.t 22), (.t 4)])] [0, 2, 3, 4, 5]))
  (.reg [B 20 (.mv (.t 5)), B 21 (.slice 1 (.t 20) (some (.k (.c (.int .i64 64)))) none none), B 5 (.asg (.t 21))] [0, 2, 3, 4, 5])))))
  (.seq (.reg [B 6 (.alloc [.int .u8 0, .int .u8 0, .int .u8 0, .int .u8 0, .int .u8 0, .int .u8 0, .int .u8 0, .int .u8 0, .int .u8 0, .int .u8 0, .int .u8 0, .int .u8 0, .int .u8 0, .int .u8 0, .int .u8 0, .int .u8 0, .int .u8 0, .int .u8 0, .int .u8 0, .int .u8 0, .int .u8 0, .int .u8 0, .int .u8 0, .int .u8 0, .int .u8 0, .int .u8 0, .int .u8 0, .int .u8 0, .int .u8 0, .int .u8 0, .int .u8 0, .int .u8 0, .int .u8 0, .int .u8 0, .int .u8 0, .int .u8 0, .int .u8 0, .int .u8 0, .int .u8 0, .int .u8 0, .int .u8 0, .int .u8 0, .int .u8 0, .int .u8 0, .int .u8 0, .int .u8 0, .int .u8 0, .int .u8 0, .int .u8 0, .int .u8 0, .int .u8 0, .int .u8 0, .int .u8 0, .int .u8 0, .int .u8 0, .int .u8 0, .int .u8 0, .int .u8 0, .int .u8 0, .int .u8 0, .int .u8 0, .int .u8 0, .int .u8 0, .int .u8 0, .int .u8 0, .int .u8 0, .int .u8 0, .int .u8 0, .int .u8 0, .int .u8 0, .int .u8 0, .int .u8 0, .int .u8 0, .int .u8 0, .int .u8 0, .int .u8 0, .int .u8 0, .int .u8 0, .int .u8 0, .int .u8 0, .int .u8 0, .int .u8 0, .int .u8 0, .int .u8 0, .int .u8 0, .int .u8 0, .int .u8 0, .int .u8 0, .int .u8 0, .int .u8 0, .int .u8 0, .int .u8 0, .int .u8 0, .int .u8 0, .int .u8 0, .int .u8 0, .int .u8 0, .int .u8 0, .int .u8 0, .int .u8 0, .int .u8 0, .int .u8 0, .int .u8 0, .int .u8 0, .int .u8 0, .int .u8 0, .int .u8 0, .int .u8 0, .int .u8 0, .int .u8 0, .int .u8 0, .int .u8 0, .int .u8 0, .int .u8 0, .int .u8 0, .int .u8 0, .int .u8 0, .int .u8 0, .int .u8 0, .int .u8 0, .int .u8 0, .int .u8 0, .int .u8 0, .int .u8 0, .int .u8 0, .int .u8 0, .int .u8 0, .int .u8 0])] [0, 2, 3, 4, 5, 6])
  (.seq (.reg [B 24 (.aslice 1 128 (.t 6)), B 25 (.mv (.t 5)), B 26 (.cpy 1 (.t 24) (.t 25)), B 7 (.asg (.t 26))] [0, 2, 3, 4, 6, 7])
  (.seq (.reg [B 27 (.mv (.t 7)), B 28 (.iarr 1 128 (.t 6) (.t 27)), Bn (.store 1 (.t 28) (.k (.c (.int .u8 128))))] [0, 2, 3, 4, 6, 7])
  (.seq (.reg [B 8 (.asg (.k (.c (.int .i64 64))))] [0, 2, 3, 4, 6, 7, 8])
  (.seq (.seq (.reg [B 29 (.mv (.t 7)), B 30 (.bin .ge (.t 29) (.k (.c (.int .i64 56))))] [0, 2, 3, 4, 6, 8, 30])
  (.cond (.t 30) (.reg [B 8 (.asg (.k (.c (.int .i64 128))))] [0, 2, 3, 4, 6, 8])
  .skip))
  (.seq (.reg [B 31 (.mv (.t 0)), B 32 (.len (.t 31)), B 33 (.conv .u64 (.t 32)), B 34 (.bin .shl (.t 33) (.k (.c (.int .u64 3)))), B 9 (.asg (.t 34))] [2, 3, 4, 6, 8, 9])
  (.seq (.seq (.reg [B 35 (.mv (.k (.c (.int .i64 0))))] [2, 3, 4, 6, 8, 9, 35])
  (.block 2 (.loop (.seq (.reg [B 36 (.bin .lt (.t 35) (.k (.c (.int .i64 8))))] [2, 3, 4, 6, 8, 9, 35, 36])
  (.seq (.cond (.t 36) .skip
  (.exit 2))
  (.seq (.block 3 (.seq (.reg [B 37 (.mv (.t 35)), B 10 (.asg (.t 37))] [2, 3, 4, 6, 8, 9, 10, 35])
  (.reg [B 38 (.mv (.t 8)), B 39 (.bin .sub (.t 38) (.k (.c (.int .i64 1)))), B 40 (.mv (.t 10)), B 41 (.bin .sub (.t 39) (.t 40)), B 42 (.mv (.t 9)), B 43 (.mv (.t 10)), B 44 (.bin .mul (.k (.c (.int .i64 8))) (.t 43)), B 45 (.bin .shr (.t 42) (.t 44)), B 46 (.conv .u8 (.t 45)), B 47 (.iarr 1 128 (.t 6) (.t 41)), Bn (.store 1 (.t 47) (.t 46))] [2, 3, 4, 6, 8, 9, 35])))
  (.reg [B 48 (.bin .add (.t 35) (.k (.c (.int .i64 1)))), B 35 (.mv (.t 48))] [2, 3, 4, 6, 8, 9, 35])))))))
  (.seq (.seq (.reg [B 11 (.asg (.k (.c (.int .i64 0))))] [2, 3, 4, 6, 8, 11])
  (.block 4 (.loop (.seq (.seq (.reg [B 49 (.mv (.t 11)), B 50 (.mv (.t 8)), B 51 (.bin .lt (.t 49) (.t 50))] [2, 3, 4, 6, 8, 11, 51])
  (.cond (.t 51) .skip
  (.exit 4)))
  (.seq (.block 5 (.reg [B 54 (.mv (.t 11)), B 55 (.aslc 1 128 (.t 6) (some (.t 54)) none), B 56 (.call 184 [(.t 3), (.t 55), (.t 4)])] [2, 3, 4, 6, 8, 11]))
  (.reg [B 52 (.mv (.t 11)), B 53 (.bin .add (.t 52) (.k (.c (.int .i64 64)))), B 11 (.asg (.t 53))] [2, 3, 4, 6, 8, 11]))))))
  (.seq (.seq (.reg [B 57 (.load true 8 (.t 3)), B 58 (.mv (.k (.c (.int .i64 0))))] [2, 57, 58])
  (.block 6 (.loop (.seq (.reg [B 59 (.bin .lt (.t 58) (.k (.c (.int .i64 8))))] [2, 57, 58, 59])
  (.seq (.cond (.t 59) .skip
  (.exit 6))
  (.seq (.block 7 (.seq (.reg [B 60 (.mv (.t 58)), B 61 (.idx false 8 1 (.t 57) (.t 58)), B 12 (.asg (.t 60)), B 13 (.asg (.t 61))] [2, 12, 13, 57, 58])
  (.reg [B 62 (.mv (.t 12)), B 63 (.bin .mul (.k (.c (.int .i64 4))) (.t 62)), B 64 (.mv (.t 12)), B 65 (.bin .mul (.k (.c (.int .i64 4))) (.t 64)), B 66 (.bin .add (.t 65) (.k (.c (.int .i64 1)))), B 67 (.mv (.t 12)), B 68 (.bin .mul (.k (.c (.int .i64 4))) (.t 67)), B 69 (.bin .add (.t 68) (.k (.c (.int .i64 2)))), B 70 (.mv (.t 12)), B 71 (.bin .mul (.k (.c (.int .i64 4))) (.t 70)), B 72 (.bin .add (.t 71) (.k (.c (.int .i64 3)))), B 73 (.mv (.t 13)), B 74 (.bin .shr (.t 73) (.k (.c (.int .u64 24)))), B 75 (.conv .u8 (.t 74)), B 76 (.mv (.t 13)), B 77 (.bin .shr (.t 76) (.k (.c (.int .u64 16)))), B 78 (.conv .u8 (.t 77)), B 79 (.mv (.t 13)), B 80 (.bin .shr (.t 79) (.k (.c (.int .u64 8)))), B 81 (.conv .u8 (.t 80)), B 82 (.mv (.t 13)), B 83 (.conv .u8 (.t 82)), B 84 (.iarr 1 32 (.t 2) (.t 63)), Bn (.store 1 (.t 84) (.t 75)), B 85 (.iarr 1 32 (.t 2) (.t 66)), Bn (.store 1 (.t 85) (.t 78)), B 86 (.iarr 1 32 (.t 2) (.t 69)), Bn (.store 1 (.t 86) (.t 81)), B 87 (.iarr 1 32 (.t 2) (.t 72)), Bn (.store 1 (.t 87) (.t 83))] [2, 57, 58])))
  (.reg [B 88 (.bin .add (.t 58) (.k (.c (.int .i64 1)))), B 58 (.mv (.t 88))] [2, 57, 58])))))))
  (.seq (.reg [B 89 (.load true 32 (.t 2)), Bn (.store 32 (.t 2) (.t 89))] [2])
  .ret)))))))))))))))
def r178 : List ARes := [.cell 2 true 32]
theorem k178 : bChk Tryz.prog 178 Tryz.f178 1 c178 r178 = true := by kernel_rfl
theorem p178 : Tryz.prog.funcs[178]? = some Tryz.f178 := by kernel_rfl

/-- scrivener/codec.lay$1 -/
def c179 : BCode :=
  (.regd [Oo 3 (.load false 1 (.t 1)), Oo 4 (.mv (.t 0)), Oo 5 (.call 159 [(.t 4)]), Oo 6 (.app 1 1 (.t 3) (.t 5)), On (.store 1 (.t 1) (.t 6))]
    (.fl 0 (.fl 1 (.ch 2 [0] (.ch 3 [] (.ch 4 [] .done))))) [])
def r179 : List ARes := []
theorem k179 : bChk Tryz.prog 179 Tryz.f179 2 c179 r179 = true := by kernel_rfl
theorem p179 : Tryz.prog.funcs[179]? = some Tryz.f179 := by kernel_rfl

/-- scrivener/octet.Zig -/
def c180 : BCode :=
  (.seq (.reg [B 2 (.asg (.k (.c (.int .u64 0))))] [0])
  (.seq (.reg [B 3 (.mv (.t 0)), B 4 (.bin .shl (.t 3) (.k (.c (.int .u64 1)))), B 5 (.conv .u64 (.t 4)), B 6 (.mv (.t 0)), B 7 (.bin .shr (.t 6) (.k (.c (.int .u64 63)))), B 8 (.conv .u64 (.t 7)), B 9 (.bin .xor (.t 5) (.t 8)), B 2 (.asg (.t 9))] [2])
  .ret))
def r180 : List ARes := [.tmp 2]
theorem k180 : bChk Tryz.prog 180 Tryz.f180 1 c180 r180 = true := by kernel_rfl
theorem p180 : Tryz.prog.funcs[180]? = some Tryz.f180 := by kernel_rfl

/-- scrivener/value.fields -/
def c181 : BCode :=
  (.seq (.reg [B 1 (.boxR (.t 0)), B 2 (.asg (.k (.c (.bool false))))] [1])
  (.seq (.seq (.reg [B 5 (.fadr 4 (.t 1)), B 6 (.load false 1 (.t 5)), B 7 (.len (.t 6)), B 8 (.mv (.k (.c (.int .i64 0))))] [1, 6, 7, 8])
  (.block 0 (.loop (.seq (.reg [B 9 (.bin .lt (.t 8) (.t 7))] [1, 6, 7, 8, 9])
  (.seq (.cond (.t 9) .skip
  (.exit 0))
  (.seq (.block 1 (.seq (.reg [B 10 (.mv (.t 8)), B 11 (.iadr 1 (.t 6) (.t 8)), B 12 (.load false 1 (.t 11)), B 3 (.asg (.t 10)), B 4 (.asg (.t 12))] [1, 3, 4, 6, 7, 8])
  (.seq (.reg [B 13 (.mv (.t 4)), B 14 (.call 185 [(.t 13)]), B 15 (.not (.t 14)), B 16 (.mv (.t 15)), Bg 17 (.mv (.t 3)) 16 false, Bg 18 (.bin .gt (.t 17) (.k (.c (.int .i64 0)))) 16 false, Bg 19 (.mv (.t 18)) 16 false, Bg 20 (.mv (.t 4)) 19 true, Bg 21 (.fadr 4 (.t 1)) 19 true, Bg 22 (.load false 1 (.t 21)) 19 true, Bg 23 (.mv (.t 3)) 19 true, Bg 24 (.bin .sub (.t 23) (.k (.c (.int .i64 1)))) 19 true, Bg 25 (.iadr 1 (.t 22) (.t 24)) 19 true, Bg 26 (.load false 1 (.t 25)) 19 true, Bg 27 (.bin .sle (.t 20) (.t 26)) 19 true, Bg 28 (.pick (.t 19) (.t 27) (.k (.c (.bool false)))) 16 false, B 29 (.pick (.t 16) (.k (.c (.bool true))) (.t 28))] [1, 6, 7, 8, 29])
  (.cond (.t 29) (.seq (.reg [B 2 (.asg (.k (.c (.bool false))))] [2])
  .ret)
  .skip))))
  (.reg [B 30 (.bin .add (.t 8) (.k (.c (.int .i64 1)))), B 8 (.mv (.t 30))] [1, 6, 7, 8])))))))
  (.seq (.reg [B 31 (.fadr 4 (.t 1)), B 32 (.load false 1 (.t 31)), B 33 (.len (.t 32)), B 34 (.fadr 5 (.t 1)), B 35 (.load false 1 (.t 34)), B 36 (.len (.t 35)), B 37 (.bin .eq (.t 33) (.t 36)), B 2 (.asg (.t 37))] [2])
  .ret)))
def r181 : List ARes := [.tmp 2]
theorem k181 : bChk Tryz.prog 181 Tryz.f181 1 c181 r181 = true := by kernel_rfl
theorem p181 : Tryz.prog.funcs[181]? = some Tryz.f181 := by kernel_rfl

/-- scrivener/scrivenerref2.r -/
def c182 : BCode :=
  (.seq (.reg [B 4 (.asg (.k (.c (.int .u32 0))))] [0, 1])
  (.seq (.reg [B 5 (.mv (.t 0)), B 6 (.mv (.t 1)), B 7 (.bin .shr (.t 5) (.t 6)), B 8 (.mv (.t 0)), B 9 (.mv (.t 1)), B 10 (.bin .sub (.k (.c (.int .u64 32))) (.t 9)), B 11 (.bin .shl (.t 8) (.t 10)), B 12 (.bin .or (.t 7) (.t 11)), B 4 (.asg (.t 12))] [4])
  .ret))
def r182 : List ARes := [.tmp 4]
theorem k182 : bChk Tryz.prog 182 Tryz.f182 2 c182 r182 = true := by kernel_rfl
theorem p182 : Tryz.prog.funcs[182]? = some Tryz.f182 := by kernel_rfl

/-- scrivener/digest.numbers -/
def c183 : BCode :=
  (.seq (.reg [B 0 (.alloc [.int .u32 0, .int .u32 0, .int .u32 0, .int .u32 0, .int .u32 0, .int .u32 0, .int .u32 0, .int .u32 0, .int .u32 0, .int .u32 0, .int .u32 0, .int .u32 0, .int .u32 0, .int .u32 0, .int .u32 0, .int .u32 0, .int .u32 0, .int .u32 0, .int .u32 0, .int .u32 0, .int .u32 0, .int .u32 0, .int .u32 0, .int .u32 0, .int .u32 0, .int .u32 0, .int .u32 0, .int .u32 0, .int .u32 0, .int .u32 0, .int .u32 0, .int .u32 0, .int .u32 0, .int .u32 0, .int .u32 0, .int .u32 0, .int .u32 0, .int .u32 0, .int .u32 0, .int .u32 0, .int .u32 0, .int .u32 0, .int .u32 0, .int .u32 0, .int .u32 0, .int .u32 0, .int .u32 0, .int .u32 0, .int .u32 0, .int .u32 0, .int .u32 0, .int .u32 0, .int .u32 0, .int .u32 0, .int .u32 0, .int .u32 0, .int .u32 0, .int .u32 0, .int .u32 0, .int .u32 0, .int .u32 0, .int .u32 0, .int .u32 0, .int .u32 0])] [0])
  (.seq (.reg [B 1 (.build [.int .u32 0, .int .u32 0, .int .u32 0, .int .u32 0, .int .u32 0, .int .u32 0, .int .u32 0, .int .u32 0, .int .u32 0, .int .u32 0, .int .u32 0, .int .u32 0, .int .u32 0, .int .u32 0, .int .u32 0, .int .u32 0, .int .u32 0, .int .u32 0, .int .u32 0, .int .u32 0, .int .u32 0, .int .u32 0, .int .u32 0, .int .u32 0, .int .u32 0, .int .u32 0, .int .u32 0, .int .u32 0, .int .u32 0, .int .u32 0, .int .u32 0, .int .u32 0, .int .u32 0, .int .u32 0, .int .u32 0, .int .u32 0, .int .u32 0, .int .u32 0, .int .u32 0, .int .u32 0, .int .u32 0, .int .u32 0, .int .u32 0, .int .u32 0, .int .u32 0, .int .u32 0, .int .u32 0, .int .u32 0, .int .u32 0, .int .u32 0, .int .u32 0, .int .u32 0, .int .u32 0, .int .u32 0, .int .u32 0, .int .u32 0, .int .u32 0, .int .u32 0, .int .u32 0, .int .u32 0, .int .u32 0, .int .u32 0, .int .u32 0, .int .u32 0] [(0, 1, (.k (.c (.int .u32 1116352408)))), (1, 1, (.k (.c (.int .u32 1899447441)))), (2, 1, (.k (.c (.int .u32 3049323471)))), (3, 1, (.k (.c (.int .u32 3921009573)))), (4, 1, (.k (.c (.int .u32 961987163)))), (5, 1, (.k (.c (.int .u32 1508970993)))), (6, 1, (.k (.c (.int .u32 2453635748)))), (7, 1, (.k (.c (.int .u32 2870763221)))), (8, 1, (.k (.c (.int .u32 3624381080)))), (9, 1, (.k (.c (.int .u32 310598401)))), (10, 1, (.k (.c (.int .u32 607225278)))), (11, 1, (.k (.c (.int .u32 1426881987)))), (12, 1, (.k (.c (.int .u32 1925078388)))), (13, 1, (.k (.c (.int .u32 2162078206)))), (14, 1, (.k (.c (.int .u32 2614888103)))), (15, 1, (.k (.c (.int .u32 3248222580)))), (16, 1, (.k (.c (.int .u32 3835390401)))), (17, 1, (.k (.c (.int .u32 4022224774)))), (18, 1, (.k (.c (.int .u32 264347078)))), (19, 1, (.k (.c (.int .u32 604807628)))), (20, 1, (.k (.c (.int .u32 770255983)))), (21, 1, (.k (.c (.int .u32 1249150122)))), (22, 1, (.k (.c (.int .u32 1555081692)))), (23, 1, (.k (.c (.int .u32 1996064986)))), (24, 1, (.k (.c (.int .u32 2554220882)))), (25, 1, (.k (.c (.int .u32 2821834349)))), (26, 1, (.k (.c (.int .u32 2952996808)))), (27, 1, (.k (.c (.int .u32 3210313671)))), (28, 1, (.k (.c (.int .u32 3336571891)))), (29, 1, (.k (.c (.int .u32 3584528711)))), (30, 1, (.k (.c (.int .u32 113926993)))), (31, 1, (.k (.c (.int .u32 338241895)))), (32, 1, (.k (.c (.int .u32 666307205)))), (33, 1, (.k (.c (.int .u32 773529912)))), (34, 1, (.k (.c (.int .u32 1294757372)))), (35, 1, (.k (.c (.int .u32 1396182291)))), (36, 1, (.k (.c (.int .u32 1695183700)))), (37, 1, (.k (.c (.int .u32 1986661051)))), (38, 1, (.k (.c (.int .u32 2177026350)))), (39, 1, (.k (.c (.int .u32 2456956037)))), (40, 1, (.k (.c (.int .u32 2730485921)))), (41, 1, (.k (.c (.int .u32 2820302411)))), (42, 1, (.k (.c (.int .u32 3259730800)))), (43, 1, (.k (.c (.int .u32 3345764771)))), (44, 1, (.k (.c (.int .u32 3516065817)))), (45, 1, (.k (.c (.int .u32 3600352804)))), (46, 1, (.k (.c (.int .u32 4094571909)))), (47, 1, (.k (.c (.int .u32 275423344)))), (48, 1, (.k (.c (.int .u32 430227734)))), (49, 1, (.k (.c (.int .u32 506948616)))), (50, 1, (.k (.c (.int .u32 659060556)))), (51, 1, (.k (.c (.int .u32 883997877)))), (52, 1, (.k (.c (.int .u32 958139571)))), (53, 1, (.k (.c (.int .u32 1322822218)))), (54, 1, (.k (.c (.int .u32 1537002063)))), (55, 1, (.k (.c (.int .u32 1747873779)))), (56, 1, (.k (.c (.int .u32 1955562222)))), (57, 1, (.k (.c (.int .u32 2024104815)))), (58, 1, (.k (.c (.int .u32 2227730452)))), (59, 1, (.k (.c (.int .u32 2361852424)))), (60, 1, (.k (.c (.int .u32 2428436474)))), (61, 1, (.k (.c (.int .u32 2756734187)))), (62, 1, (.k (.c (.int .u32 3204031479)))), (63, 1, (.k (.c (.int .u32 3329325298))))]), Bn (.store 64 (.t 0) (.t 1))] [0])
  .ret))
def r183 : List ARes := [.cell 0 true 64]
theorem k183 : bChk Tryz.prog 183 Tryz.f183 0 c183 r183 = true := by kernel_rfl
theorem p183 : Tryz.prog.funcs[183]? = some Tryz.f183 := by kernel_rfl

/-- (*scrivener/digest.state).take -/
def c184 : BCode :=
  (.seq (.reg [B 6 (.alloc [.int .u32 0, .int .u32 0, .int .u32 0, .int .u32 0, .int .u32 0, .int .u32 0, .int .u32 0, .int .u32 0, .int .u32 0, .int .u32 0, .int .u32 0, .int .u32 0, .int .u32 0, .int .u32 0, .int .u32 0, .int .u32 0, .int .u32 0, .int .u32 0, .int .u32 0, .int .u32 0, .int .u32 0, .int .u32 0, .int .u32 0, .int .u32 0, .int .u32 0, .int .u32 0, .int .u32 0, .int .u32 0, .int .u32 0, .int .u32 0, .int .u32 0, .int .u32 0, .int .u32 0, .int .u32 0, .int .u32 0, .int .u32 0, .int .u32 0, .int .u32 0, .int .u32 0, .int .u32 0, .int .u32 0, .int .u32 0, .int .u32 0, .int .u32 0, .int .u32 0, .int .u32 0, .int .u32 0, .int .u32 0, .int .u32 0, .int .u32 0, .int .u32 0, .int .u32 0, .int .u32 0, .int .u32 0, .int .u32 0, .int .u32 0, .int .u32 0, .int .u32 0, .int .u32 0, .int .u32 0, .int .u32 0, .int .u32 0, .int .u32 0, .int .u32 0])] [0, 1, 2, 6])
  (.seq (.seq (.reg [B 20 (.mv (.k (.c (.int .i64 0))))] [0, 1, 2, 6, 20])
  (.block 0 (.loop (.seq (.reg [B 21 (.bin .lt (.t 20) (.k (.c (.int .i64 16))))] [0, 1, 2, 6, 20, 21])
  (.seq (.cond (.t 21) .skip
  (.exit 0))
  (.seq (.block 1 (.seq (.reg [B 22 (.mv (.t 20)), B 7 (.asg (.t 22))] [0, 1, 2, 6, 7, 20])
  (.reg [B 23 (.mv (.t 7)), B 24 (.mv (.t 1)), B 25 (.mv (.t 7)), B 26 (.bin .mul (.k (.c (.int .i64 4))) (.t 25)), B 27 (.slice 1 (.t 24) (some (.t 26)) none none), B 28 (.call 186 [(.t 27)]), B 29 (.iarr 1 64 (.t 6) (.t 23)), Bn (.store 1 (.t 29) (.t 28))] [0, 1, 2, 6, 20])))
  (.reg [B 30 (.bin .add (.t 20) (.k (.c (.int .i64 1)))), B 20 (.mv (.t 30))] [0, 1, 2, 6, 20])))))))
  (.seq (.seq (.reg [B 8 (.asg (.k (.c (.int .i64 16))))] [0, 2, 6, 8])
  (.block 2 (.loop (.seq (.seq (.reg [B 31 (.mv (.t 8)), B 32 (.bin .lt (.t 31) (.k (.c (.int .i64 64))))] [0, 2, 6, 8, 32])
  (.cond (.t 32) .skip
  (.exit 2)))
  (.seq (.block 3 (.seq (.regd [Oo 35 (.mv (.t 8)), Oo 36 (.bin .sub (.t 35) (.k (.c (.int .i64 15)))), Oo 37 (.iarr 1 64 (.t 6) (.t 36)), Oo 38 (.load false 1 (.t 37)), Oo 39 (.mv (.t 8)), Oo 40 (.bin .sub (.t 39) (.k (.c (.int .i64 2)))), Oo 41 (.iarr 1 64 (.t 6) (.t 40)), Oo 42 (.load false 1 (.t 41)), Oo 9 (.asg (.t 38)), Oo 10 (.asg (.t 42))]
    (.fl 0 (.fl 1 (.fl 2 (.fl 3 (.fl 4 (.fl 5 (.fl 6 (.fl 7 (.ch 8 [7] (.ch 9 [] .done)))))))))) [0, 2, 6, 8, 9, 10])
  (.seq (.reg [B 43 (.mv (.t 9)), B 44 (.call 187 [(.t 43), (.k (.c (.int .u64 7)))]), B 45 (.mv (.t 9)), B 46 (.call 187 [(.t 45), (.k (.c (.int .u64 18)))]), B 47 (.bin .xor (.t 44) (.t 46)), B 48 (.mv (.t 9)), B 49 (.bin .shr (.t 48) (.k (.c (.int .u64 3)))), B 50 (.bin .xor (.t 47) (.t 49)), B 11 (.asg (.t 50))] [0, 2, 6, 8, 10, 11])
  (.seq (.reg [B 51 (.mv (.t 10)), B 52 (.call 187 [(.t 51), (.k (.c (.int .u64 17)))]), B 53 (.mv (.t 10)), B 54 (.call 187 [(.t 53), (.k (.c (.int .u64 19)))]), B 55 (.bin .xor (.t 52) (.t 54)), B 56 (.mv (.t 10)), B 57 (.bin .shr (.t 56) (.k (.c (.int .u64 10)))), B 58 (.bin .xor (.t 55) (.t 57)), B 12 (.asg (.t 58))] [0, 2, 6, 8, 11, 12])
  (.regd [Oo 59 (.mv (.t 8)), Oo 60 (.mv (.t 8)), Oo 61 (.bin .sub (.t 60) (.k (.c (.int .i64 16)))), Oo 62 (.iarr 1 64 (.t 6) (.t 61)), Oo 63 (.load false 1 (.t 62)), Oo 64 (.mv (.t 11)), Oo 65 (.bin .add (.t 63) (.t 64)), Oo 66 (.mv (.t 8)), Oo 67 (.bin .sub (.t 66) (.k (.c (.int .i64 7)))), Oo 68 (.iarr 1 64 (.t 6) (.t 67)), Oo 69 (.load false 1 (.t 68)), Oo 70 (.bin .add (.t 65) (.t 69)), Oo 71 (.mv (.t 12)), Oo 72 (.bin .add (.t 70) (.t 71)), Oo 73 (.iarr 1 64 (.t 6) (.t 59)), On (.store 1 (.t 73) (.t 72))]
    (.fl 0 (.fl 1 (.fl 2 (.fl 3 (.fl 4 (.fl 5 (.fl 6 (.fl 7 (.fl 8 (.fl 9 (.fl 10 (.fl 11 (.fl 12 (.fl 13 (.fl 14 (.ch 15 [] .done)))))))))))))))) [0, 2, 6, 8])))))
  (.reg [B 33 (.mv (.t 8)), B 34 (.bin .add (.t 33) (.k (.c (.int .i64 1)))), B 8 (.asg (.t 34))] [0, 2, 6, 8]))))))
  (.seq (.reg [B 74 (.mv (.t 0)), B 75 (.nilck (.t 74)), B 76 (.load true 8 (.t 75)), B 13 (.alloc [.int .u32 0, .int .u32 0, .int .u32 0, .int .u32 0, .int .u32 0, .int .u32 0, .int .u32 0, .int .u32 0]), Bn (.store 8 (.t 13) (.t 76))] [0, 2, 6, 13])
  (.seq (.seq (.reg [B 77 (.mv (.k (.c (.int .i64 0))))] [0, 2, 6, 13, 77])
  (.block 4 (.loop (.seq (.reg [B 78 (.bin .lt (.t 77) (.k (.c (.int .i64 64))))] [0, 2, 6, 13, 77, 78])
  (.seq (.cond (.t 78) .skip
  (.exit 4))
  (.seq (.block 5 (.seq (.reg [B 79 (.mv (.t 77)), B 14 (.asg (.t 79))] [0, 2, 6, 13, 14, 77])
  (.seq (.regd [Oo 80 (.iarr 1 8 (.t 13) (.k (.c (.int .i64 0)))), Oo 81 (.load false 1 (.t 80)), Oo 82 (.iarr 1 8 (.t 13) (.k (.c (.int .i64 4)))), Oo 83 (.load false 1 (.t 82)), Oo 15 (.asg (.t 81)), Oo 16 (.asg (.t 83))]
    (.fl 0 (.fl 1 (.fl 2 (.fl 3 (.ch 4 [3] (.ch 5 [] .done)))))) [0, 2, 6, 13, 14, 15, 16, 77])
  (.seq (.regd [Oo 84 (.iarr 1 8 (.t 13) (.k (.c (.int .i64 7)))), Oo 85 (.load false 1 (.t 84)), Oo 86 (.mv (.t 16)), Oo 87 (.call 187 [(.t 86), (.k (.c (.int .u64 6)))]), Oo 88 (.mv (.t 16)), Oo 89 (.call 187 [(.t 88), (.k (.c (.int .u64 11)))]), Oo 90 (.bin .xor (.t 87) (.t 89)), Oo 91 (.mv (.t 16)), Oo 92 (.call 187 [(.t 91), (.k (.c (.int .u64 25)))]), Oo 93 (.bin .xor (.t 90) (.t 92)), Oo 94 (.bin .add (.t 85) (.t 93)), Oo 95 (.mv (.t 16)), Oo 96 (.iarr 1 8 (.t 13) (.k (.c (.int .i64 5)))), Oo 97 (.load false 1 (.t 96)), Oo 98 (.bin .and (.t 95) (.t 97)), Oo 99 (.mv (.t 16)), Oo 100 (.inv (.t 99)), Oo 101 (.iarr 1 8 (.t 13) (.k (.c (.int .i64 6)))), Oo 102 (.load false 1 (.t 101)), Oo 103 (.bin .and (.t 100) (.t 102)), Oo 104 (.bin .xor (.t 98) (.t 103)), Oo 105 (.bin .add (.t 94) (.t 104)), Oo 106 (.mv (.t 2)), Oo 107 (.mv (.t 14)), Oo 108 (.nilck (.t 106)), Oo 109 (.iarr 1 64 (.t 108) (.t 107)), Oo 110 (.load false 1 (.t 109)), Oo 111 (.bin .add (.t 105) (.t 110)), Oo 112 (.mv (.t 14)), Oo 113 (.iarr 1 64 (.t 6) (.t 112)), Oo 114 (.load false 1 (.t 113)), Oo 115 (.bin .add (.t 111) (.t 114)), Oo 17 (.asg (.t 115))]
    (.fl 0 (.fl 1 (.fl 2 (.fl 4 (.fl 7 (.fl 11 (.fl 12 (.fl 13 (.fl 14 (.fl 15 (.fl 16 (.fl 17 (.fl 18 (.fl 19 (.fl 20 (.fl 22 (.fl 23 (.fl 24 (.fl 25 (.fl 26 (.fl 28 (.fl 29 (.fl 30 (.ch 3 [1, 13, 18, 26, 30] (.ch 5 [1, 13, 18, 26, 30] (.fl 6 (.ch 8 [1, 13, 18, 26, 30] (.fl 9 (.fl 10 (.fl 21 (.fl 27 (.fl 31 (.ch 32 [] .done))))))))))))))))))))))))))))))))) [0, 2, 6, 13, 15, 17, 77])
  (.seq (.regd [Oo 116 (.mv (.t 15)), Oo 117 (.call 187 [(.t 116), (.k (.c (.int .u64 2)))]), Oo 118 (.mv (.t 15)), Oo 119 (.call 187 [(.t 118), (.k (.c (.int .u64 13)))]), Oo 120 (.bin .xor (.t 117) (.t 119)), Oo 121 (.mv (.t 15)), Oo 122 (.call 187 [(.t 121), (.k (.c (.int .u64 22)))]), Oo 123 (.bin .xor (.t 120) (.t 122)), Oo 124 (.mv (.t 15)), Oo 125 (.iarr 1 8 (.t 13) (.k (.c (.int .i64 1)))), Oo 126 (.load false 1 (.t 125)), Oo 127 (.bin .and (.t 124) (.t 126)), Oo 128 (.mv (.t 15)), Oo 129 (.iarr 1 8 (.t 13) (.k (.c (.int .i64 2)))), Oo 130 (.load false 1 (.t 129)), Oo 131 (.bin .and (.t 128) (.t 130)), Oo 132 (.bin .xor (.t 127) (.t 131)), Oo 133 (.iarr 1 8 (.t 13) (.k (.c (.int .i64 1)))), Oo 134 (.load false 1 (.t 133)), Oo 135 (.iarr 1 8 (.t 13) (.k (.c (.int .i64 2)))), Oo 136 (.load false 1 (.t 135)), Oo 137 (.bin .and (.t 134) (.t 136)), Oo 138 (.bin .xor (.t 132) (.t 137)), Oo 139 (.bin .add (.t 123) (.t 138)), Oo 18 (.asg (.t 139))]
    (.fl 0 (.fl 2 (.fl 5 (.fl 8 (.fl 9 (.fl 10 (.fl 11 (.fl 12 (.fl 13 (.fl 14 (.fl 15 (.fl 16 (.fl 17 (.fl 18 (.fl 19 (.fl 20 (.fl 21 (.fl 22 (.ch 1 [10, 14, 18, 20] (.ch 3 [10, 14, 18, 20] (.fl 4 (.ch 6 [10, 14, 18, 20] (.fl 7 (.fl 23 (.ch 24 [] .done))))))))))))))))))))))))) [0, 2, 6, 13, 17, 18, 77])
  (.reg [B 140 (.mv (.t 17)), B 141 (.mv (.t 18)), B 142 (.bin .add (.t 140) (.t 141)), B 143 (.iarr 1 8 (.t 13) (.k (.c (.int .i64 0)))), B 144 (.load false 1 (.t 143)), B 145 (.iarr 1 8 (.t 13) (.k (.c (.int .i64 1)))), B 146 (.load false 1 (.t 145)), B 147 (.iarr 1 8 (.t 13) (.k (.c (.int .i64 2)))), B 148 (.load false 1 (.t 147)), B 149 (.iarr 1 8 (.t 13) (.k (.c (.int .i64 3)))), B 150 (.load false 1 (.t 149)), B 151 (.mv (.t 17)), B 152 (.bin .add (.t 150) (.t 151)), B 153 (.iarr 1 8 (.t 13) (.k (.c (.int .i64 4)))), B 154 (.load false 1 (.t 153)), B 155 (.iarr 1 8 (.t 13) (.k (.c (.int .i64 5)))), B 156 (.load false 1 (.t 155)), B 157 (.iarr 1 8 (.t 13) (.k (.c (.int .i64 6)))), B 158 (.load false 1 (.t 157)), B 159 (.build [.int .u32 0, .int .u32 0, .int .u32 0, .int .u32 0, .int .u32 0, .int .u32 0, .int .u32 0, .int .u32 0] [(0, 1, (.t 142)), (1, 1, (.t 144)), (2, 1, (.t 146)), (3, 1, (.t 148)), (4, 1, (.t 152)), (5, 1, (.t 154)), (6, 1, (.t 156)), (7, 1, (.t 158))]), Bn (.store 8 (.t 13) (.t 159))] [0, 2, 6, 13, 77]))))))
  (.reg [B 160 (.bin .add (.t 77) (.k (.c (.int .i64 1)))), B 77 (.mv (.t 160))] [0, 2, 6, 13, 77])))))))
  (.seq (.reg [B 161 (.mv (.k (.c (.int .i64 0))))] [0, 13, 161])
  (.block 6 (.loop (.seq (.reg [B 162 (.bin .lt (.t 161) (.k (.c (.int .i64 8))))] [0, 13, 161, 162])
  (.seq (.cond (.t 162) .skip
  (.exit 6))
  (.seq (.block 7 (.seq (.reg [B 163 (.mv (.t 161)), B 19 (.asg (.t 163))] [0, 13, 19, 161])
  (.regd [Oo 164 (.mv (.t 0)), Oo 165 (.mv (.t 19)), Oo 166 (.nilck (.t 164)), Oo 167 (.iarr 1 8 (.t 166) (.t 165)), Oo 168 (.load false 1 (.t 167)), Oo 169 (.mv (.t 19)), Oo 170 (.iarr 1 8 (.t 13) (.t 169)), Oo 171 (.load false 1 (.t 170)), Oo 172 (.bin .add (.t 168) (.t 171)), Oo 173 (.nilck (.t 164)), Oo 174 (.iarr 1 8 (.t 173) (.t 165)), On (.store 1 (.t 174) (.t 172))]
    (.fl 0 (.fl 1 (.fl 2 (.fl 3 (.fl 4 (.fl 5 (.fl 6 (.fl 7 (.fl 8 (.fl 9 (.fl 10 (.ch 11 [] .done)))))))))))) [0, 13, 161])))
  (.reg [B 175 (.bin .add (.t 161) (.k (.c (.int .i64 1)))), B 161 (.mv (.t 175))] [0, 13, 161]))))))))))))
def r184 : List ARes := []
theorem k184 : bChk Tryz.prog 184 Tryz.f184 3 c184 r184 = true := by kernel_rfl
theorem p184 : Tryz.prog.funcs[184]? = some Tryz.f184 := by kernel_rfl

/-- scrivener/value.isName -/
def c185 : BCode :=
  (.seq (.reg [B 2 (.asg (.k (.c (.bool false))))] [0])
  (.seq (.reg [B 3 (.mv (.t 0)), B 4 (.slen (.t 3)), B 5 (.bin .ge (.t 4) (.k (.c (.int .i64 1)))), B 6 (.mv (.t 5)), Bg 7 (.mv (.t 0)) 6 true, Bg 8 (.slen (.t 7)) 6 true, Bg 9 (.bin .le (.t 8) (.k (.c (.int .i64 40)))) 6 true, B 10 (.pick (.t 6) (.t 9) (.k (.c (.bool false)))), B 2 (.asg (.t 10))] [2])
  .ret))
def r185 : List ARes := [.tmp 2]
theorem k185 : bChk Tryz.prog 185 Tryz.f185 1 c185 r185 = true := by kernel_rfl
theorem p185 : Tryz.prog.funcs[185]? = some Tryz.f185 := by kernel_rfl

/-- scrivener/digest.word -/
def c186 : BCode :=
  (.seq (.reg [B 2 (.asg (.k (.c (.int .u32 0))))] [0])
  (.seq (.regd [Oo 3 (.mv (.t 0)), Oo 4 (.iadr 1 (.t 3) (.k (.c (.int .i64 0)))), Oo 5 (.load false 1 (.t 4)), Oo 6 (.conv .u32 (.t 5)), Oo 7 (.bin .shl (.t 6) (.k (.c (.int .u64 24)))), Oo 8 (.mv (.t 0)), Oo 9 (.iadr 1 (.t 8) (.k (.c (.int .i64 1)))), Oo 10 (.load false 1 (.t 9)), Oo 11 (.conv .u32 (.t 10)), Oo 12 (.bin .shl (.t 11) (.k (.c (.int .u64 16)))), Oo 13 (.bin .or (.t 7) (.t 12)), Oo 14 (.mv (.t 0)), Oo 15 (.iadr 1 (.t 14) (.k (.c (.int .i64 2)))), Oo 16 (.load false 1 (.t 15)), Oo 17 (.conv .u32 (.t 16)), Oo 18 (.bin .shl (.t 17) (.k (.c (.int .u64 8)))), Oo 19 (.bin .or (.t 13) (.t 18)), Oo 20 (.mv (.t 0)), Oo 21 (.iadr 1 (.t 20) (.k (.c (.int .i64 3)))), Oo 22 (.load false 1 (.t 21)), Oo 23 (.conv .u32 (.t 22)), Oo 24 (.bin .or (.t 19) (.t 23)), Oo 2 (.asg (.t 24))]
    (.fl 0 (.fl 1 (.fl 2 (.fl 3 (.fl 4 (.fl 5 (.fl 6 (.fl 7 (.fl 8 (.fl 9 (.fl 10 (.fl 11 (.fl 12 (.fl 13 (.fl 14 (.fl 15 (.fl 16 (.fl 17 (.fl 18 (.fl 19 (.fl 20 (.fl 21 (.ch 22 [] .done))))))))))))))))))))))) [2])
  .ret))
def r186 : List ARes := [.tmp 2]
theorem k186 : bChk Tryz.prog 186 Tryz.f186 1 c186 r186 = true := by kernel_rfl
theorem p186 : Tryz.prog.funcs[186]? = some Tryz.f186 := by kernel_rfl

/-- scrivener/digest.turn -/
def c187 : BCode :=
  (.seq (.reg [B 4 (.asg (.k (.c (.int .u32 0))))] [0, 1])
  (.seq (.reg [B 5 (.mv (.t 0)), B 6 (.mv (.t 1)), B 7 (.bin .shr (.t 5) (.t 6)), B 8 (.mv (.t 0)), B 9 (.mv (.t 1)), B 10 (.bin .sub (.k (.c (.int .u64 32))) (.t 9)), B 11 (.bin .shl (.t 8) (.t 10)), B 12 (.bin .or (.t 7) (.t 11)), B 4 (.asg (.t 12))] [4])
  .ret))
def r187 : List ARes := [.tmp 4]
theorem k187 : bChk Tryz.prog 187 Tryz.f187 2 c187 r187 = true := by kernel_rfl
theorem p187 : Tryz.prog.funcs[187]? = some Tryz.f187 := by kernel_rfl

def tab : Tab := (.node 96 c96 r96 3 false (.node 53 c53 r53 1 false (.node 26 c26 r26 2 false (.node 18 c18 r18 2 false (.node 15 c15 r15 0 false (.node 13 c13 r13 0 false (.node 6 c6 r6 1 false .leaf .leaf) (.node 14 c14 r14 0 false .leaf .leaf)) (.node 17 c17 r17 2 false (.node 16 c16 r16 2 false .leaf .leaf) .leaf)) (.node 23 c23 r23 3 false (.node 20 c20 r20 1 false (.node 19 c19 r19 2 false .leaf .leaf) (.node 22 c22 r22 2 false .leaf .leaf)) (.node 25 c25 r25 2 false (.node 24 c24 r24 1 false .leaf .leaf) .leaf))) (.node 46 c46 r46 1 false (.node 40 c40 r40 3 false (.node 28 c28 r28 1 false (.node 27 c27 r27 2 false .leaf .leaf) (.node 29 c29 r29 2 true .leaf .leaf)) (.node 45 c45 r45 0 false (.node 41 c41 r41 1 false .leaf .leaf) .leaf)) (.node 50 c50 r50 4 false (.node 48 c48 r48 3 false (.node 47 c47 r47 2 false .leaf .leaf) (.node 49 c49 r49 1 false .leaf .leaf)) (.node 52 c52 r52 3 false (.node 51 c51 r51 1 false .leaf .leaf) .leaf)))) (.node 67 c67 r67 2 false (.node 60 c60 r60 1 false (.node 57 c57 r57 2 false (.node 55 c55 r55 2 false (.node 54 c54 r54 2 false .leaf .leaf) (.node 56 c56 r56 2 false .leaf .leaf)) (.node 59 c59 r59 1 false (.node 58 c58 r58 3 false .leaf .leaf) .leaf)) (.node 64 c64 r64 1 false (.node 62 c62 r62 1 false (.node 61 c61 r61 1 false .leaf .leaf) (.node 63 c63 r63 1 false .leaf .leaf)) (.node 66 c66 r66 2 false (.node 65 c65 r65 1 false .leaf .leaf) .leaf))) (.node 89 c89 r89 1 false (.node 86 c86 r86 1 false (.node 81 c81 r81 2 false (.node 68 c68 r68 2 true .leaf .leaf) (.node 82 c82 r82 2 false .leaf .leaf)) (.node 88 c88 r88 3 false (.node 87 c87 r87 1 false .leaf .leaf) .leaf)) (.node 93 c93 r93 2 false (.node 91 c91 r91 1 true (.node 90 c90 r90 2 false .leaf .leaf) (.node 92 c92 r92 1 false .leaf .leaf)) (.node 95 c95 r95 2 false (.node 94 c94 r94 2 false .leaf .leaf) .leaf))))) (.node 142 c142 r142 2 false (.node 121 c121 r121 1 false (.node 103 c103 r103 1 false (.node 100 c100 r100 3 false (.node 98 c98 r98 2 false (.node 97 c97 r97 1 false .leaf .leaf) (.node 99 c99 r99 2 false .leaf .leaf)) (.node 102 c102 r102 1 false (.node 101 c101 r101 1 false .leaf .leaf) .leaf)) (.node 118 c118 r118 1 false (.node 111 c111 r111 1 false (.node 105 c105 r105 2 false .leaf .leaf) (.node 117 c117 r117 1 false .leaf .leaf)) (.node 120 c120 r120 1 false (.node 119 c119 r119 1 false .leaf .leaf) .leaf))) (.node 128 c128 r128 1 false (.node 125 c125 r125 1 false (.node 123 c123 r123 2 false (.node 122 c122 r122 2 false .leaf .leaf) (.node 124 c124 r124 1 false .leaf .leaf)) (.node 127 c127 r127 1 false (.node 126 c126 r126 2 false .leaf .leaf) .leaf)) (.node 132 c132 r132 1 false (.node 130 c130 r130 1 false (.node 129 c129 r129 1 false .leaf .leaf) (.node 131 c131 r131 1 false .leaf .leaf)) (.node 134 c134 r134 1 false (.node 133 c133 r133 2 false .leaf .leaf) .leaf)))) (.node 174 c174 r174 1 false (.node 159 c159 r159 1 false (.node 156 c156 r156 1 false (.node 154 c154 r154 2 false (.node 153 c153 r153 2 false .leaf .leaf) (.node 155 c155 r155 1 false .leaf .leaf)) (.node 158 c158 r158 1 false (.node 157 c157 r157 1 false .leaf .leaf) .leaf)) (.node 163 c163 r163 1 false (.node 161 c161 r161 2 false (.node 160 c160 r160 2 false .leaf .leaf) (.node 162 c162 r162 1 false .leaf .leaf)) (.node 168 c168 r168 1 false (.node 164 c164 r164 1 false .leaf .leaf) .leaf))) (.node 181 c181 r181 1 false (.node 178 c178 r178 1 false (.node 176 c176 r176 0 false (.node 175 c175 r175 2 false .leaf .leaf) (.node 177 c177 r177 3 false .leaf .leaf)) (.node 180 c180 r180 1 false (.node 179 c179 r179 2 false .leaf .leaf) .leaf)) (.node 185 c185 r185 1 false (.node 183 c183 r183 0 false (.node 182 c182 r182 2 false .leaf .leaf) (.node 184 c184 r184 3 false .leaf .leaf)) (.node 187 c187 r187 2 false (.node 186 c186 r186 1 false .leaf .leaf) .leaf))))))
theorem tabOk : TabOk Tryz.prog tab := ⟨⟨⟨_, p96, k96⟩, by kernel_rfl⟩, ⟨⟨⟨_, p53, k53⟩, by kernel_rfl⟩, ⟨⟨⟨_, p26, k26⟩, by kernel_rfl⟩, ⟨⟨⟨_, p18, k18⟩, by kernel_rfl⟩, ⟨⟨⟨_, p15, k15⟩, by kernel_rfl⟩, ⟨⟨⟨_, p13, k13⟩, by kernel_rfl⟩, ⟨⟨⟨_, p6, k6⟩, by kernel_rfl⟩, trivial, trivial⟩, ⟨⟨⟨_, p14, k14⟩, by kernel_rfl⟩, trivial, trivial⟩⟩, ⟨⟨⟨_, p17, k17⟩, by kernel_rfl⟩, ⟨⟨⟨_, p16, k16⟩, by kernel_rfl⟩, trivial, trivial⟩, trivial⟩⟩, ⟨⟨⟨_, p23, k23⟩, by kernel_rfl⟩, ⟨⟨⟨_, p20, k20⟩, by kernel_rfl⟩, ⟨⟨⟨_, p19, k19⟩, by kernel_rfl⟩, trivial, trivial⟩, ⟨⟨⟨_, p22, k22⟩, by kernel_rfl⟩, trivial, trivial⟩⟩, ⟨⟨⟨_, p25, k25⟩, by kernel_rfl⟩, ⟨⟨⟨_, p24, k24⟩, by kernel_rfl⟩, trivial, trivial⟩, trivial⟩⟩⟩, ⟨⟨⟨_, p46, k46⟩, by kernel_rfl⟩, ⟨⟨⟨_, p40, k40⟩, by kernel_rfl⟩, ⟨⟨⟨_, p28, k28⟩, by kernel_rfl⟩, ⟨⟨⟨_, p27, k27⟩, by kernel_rfl⟩, trivial, trivial⟩, ⟨⟨⟨_, p29, k29⟩, by kernel_rfl⟩, trivial, trivial⟩⟩, ⟨⟨⟨_, p45, k45⟩, by kernel_rfl⟩, ⟨⟨⟨_, p41, k41⟩, by kernel_rfl⟩, trivial, trivial⟩, trivial⟩⟩, ⟨⟨⟨_, p50, k50⟩, by kernel_rfl⟩, ⟨⟨⟨_, p48, k48⟩, by kernel_rfl⟩, ⟨⟨⟨_, p47, k47⟩, by kernel_rfl⟩, trivial, trivial⟩, ⟨⟨⟨_, p49, k49⟩, by kernel_rfl⟩, trivial, trivial⟩⟩, ⟨⟨⟨_, p52, k52⟩, by kernel_rfl⟩, ⟨⟨⟨_, p51, k51⟩, by kernel_rfl⟩, trivial, trivial⟩, trivial⟩⟩⟩⟩, ⟨⟨⟨_, p67, k67⟩, by kernel_rfl⟩, ⟨⟨⟨_, p60, k60⟩, by kernel_rfl⟩, ⟨⟨⟨_, p57, k57⟩, by kernel_rfl⟩, ⟨⟨⟨_, p55, k55⟩, by kernel_rfl⟩, ⟨⟨⟨_, p54, k54⟩, by kernel_rfl⟩, trivial, trivial⟩, ⟨⟨⟨_, p56, k56⟩, by kernel_rfl⟩, trivial, trivial⟩⟩, ⟨⟨⟨_, p59, k59⟩, by kernel_rfl⟩, ⟨⟨⟨_, p58, k58⟩, by kernel_rfl⟩, trivial, trivial⟩, trivial⟩⟩, ⟨⟨⟨_, p64, k64⟩, by kernel_rfl⟩, ⟨⟨⟨_, p62, k62⟩, by kernel_rfl⟩, ⟨⟨⟨_, p61, k61⟩, by kernel_rfl⟩, trivial, trivial⟩, ⟨⟨⟨_, p63, k63⟩, by kernel_rfl⟩, trivial, trivial⟩⟩, ⟨⟨⟨_, p66, k66⟩, by kernel_rfl⟩, ⟨⟨⟨_, p65, k65⟩, by kernel_rfl⟩, trivial, trivial⟩, trivial⟩⟩⟩, ⟨⟨⟨_, p89, k89⟩, by kernel_rfl⟩, ⟨⟨⟨_, p86, k86⟩, by kernel_rfl⟩, ⟨⟨⟨_, p81, k81⟩, by kernel_rfl⟩, ⟨⟨⟨_, p68, k68⟩, by kernel_rfl⟩, trivial, trivial⟩, ⟨⟨⟨_, p82, k82⟩, by kernel_rfl⟩, trivial, trivial⟩⟩, ⟨⟨⟨_, p88, k88⟩, by kernel_rfl⟩, ⟨⟨⟨_, p87, k87⟩, by kernel_rfl⟩, trivial, trivial⟩, trivial⟩⟩, ⟨⟨⟨_, p93, k93⟩, by kernel_rfl⟩, ⟨⟨⟨_, p91, k91⟩, by kernel_rfl⟩, ⟨⟨⟨_, p90, k90⟩, by kernel_rfl⟩, trivial, trivial⟩, ⟨⟨⟨_, p92, k92⟩, by kernel_rfl⟩, trivial, trivial⟩⟩, ⟨⟨⟨_, p95, k95⟩, by kernel_rfl⟩, ⟨⟨⟨_, p94, k94⟩, by kernel_rfl⟩, trivial, trivial⟩, trivial⟩⟩⟩⟩⟩, ⟨⟨⟨_, p142, k142⟩, by kernel_rfl⟩, ⟨⟨⟨_, p121, k121⟩, by kernel_rfl⟩, ⟨⟨⟨_, p103, k103⟩, by kernel_rfl⟩, ⟨⟨⟨_, p100, k100⟩, by kernel_rfl⟩, ⟨⟨⟨_, p98, k98⟩, by kernel_rfl⟩, ⟨⟨⟨_, p97, k97⟩, by kernel_rfl⟩, trivial, trivial⟩, ⟨⟨⟨_, p99, k99⟩, by kernel_rfl⟩, trivial, trivial⟩⟩, ⟨⟨⟨_, p102, k102⟩, by kernel_rfl⟩, ⟨⟨⟨_, p101, k101⟩, by kernel_rfl⟩, trivial, trivial⟩, trivial⟩⟩, ⟨⟨⟨_, p118, k118⟩, by kernel_rfl⟩, ⟨⟨⟨_, p111, k111⟩, by kernel_rfl⟩, ⟨⟨⟨_, p105, k105⟩, by kernel_rfl⟩, trivial, trivial⟩, ⟨⟨⟨_, p117, k117⟩, by kernel_rfl⟩, trivial, trivial⟩⟩, ⟨⟨⟨_, p120, k120⟩, by kernel_rfl⟩, ⟨⟨⟨_, p119, k119⟩, by kernel_rfl⟩, trivial, trivial⟩, trivial⟩⟩⟩, ⟨⟨⟨_, p128, k128⟩, by kernel_rfl⟩, ⟨⟨⟨_, p125, k125⟩, by kernel_rfl⟩, ⟨⟨⟨_, p123, k123⟩, by kernel_rfl⟩, ⟨⟨⟨_, p122, k122⟩, by kernel_rfl⟩, trivial, trivial⟩, ⟨⟨⟨_, p124, k124⟩, by kernel_rfl⟩, trivial, trivial⟩⟩, ⟨⟨⟨_, p127, k127⟩, by kernel_rfl⟩, ⟨⟨⟨_, p126, k126⟩, by kernel_rfl⟩, trivial, trivial⟩, trivial⟩⟩, ⟨⟨⟨_, p132, k132⟩, by kernel_rfl⟩, ⟨⟨⟨_, p130, k130⟩, by kernel_rfl⟩, ⟨⟨⟨_, p129, k129⟩, by kernel_rfl⟩, trivial, trivial⟩, ⟨⟨⟨_, p131, k131⟩, by kernel_rfl⟩, trivial, trivial⟩⟩, ⟨⟨⟨_, p134, k134⟩, by kernel_rfl⟩, ⟨⟨⟨_, p133, k133⟩, by kernel_rfl⟩, trivial, trivial⟩, trivial⟩⟩⟩⟩, ⟨⟨⟨_, p174, k174⟩, by kernel_rfl⟩, ⟨⟨⟨_, p159, k159⟩, by kernel_rfl⟩, ⟨⟨⟨_, p156, k156⟩, by kernel_rfl⟩, ⟨⟨⟨_, p154, k154⟩, by kernel_rfl⟩, ⟨⟨⟨_, p153, k153⟩, by kernel_rfl⟩, trivial, trivial⟩, ⟨⟨⟨_, p155, k155⟩, by kernel_rfl⟩, trivial, trivial⟩⟩, ⟨⟨⟨_, p158, k158⟩, by kernel_rfl⟩, ⟨⟨⟨_, p157, k157⟩, by kernel_rfl⟩, trivial, trivial⟩, trivial⟩⟩, ⟨⟨⟨_, p163, k163⟩, by kernel_rfl⟩, ⟨⟨⟨_, p161, k161⟩, by kernel_rfl⟩, ⟨⟨⟨_, p160, k160⟩, by kernel_rfl⟩, trivial, trivial⟩, ⟨⟨⟨_, p162, k162⟩, by kernel_rfl⟩, trivial, trivial⟩⟩, ⟨⟨⟨_, p168, k168⟩, by kernel_rfl⟩, ⟨⟨⟨_, p164, k164⟩, by kernel_rfl⟩, trivial, trivial⟩, trivial⟩⟩⟩, ⟨⟨⟨_, p181, k181⟩, by kernel_rfl⟩, ⟨⟨⟨_, p178, k178⟩, by kernel_rfl⟩, ⟨⟨⟨_, p176, k176⟩, by kernel_rfl⟩, ⟨⟨⟨_, p175, k175⟩, by kernel_rfl⟩, trivial, trivial⟩, ⟨⟨⟨_, p177, k177⟩, by kernel_rfl⟩, trivial, trivial⟩⟩, ⟨⟨⟨_, p180, k180⟩, by kernel_rfl⟩, ⟨⟨⟨_, p179, k179⟩, by kernel_rfl⟩, trivial, trivial⟩, trivial⟩⟩, ⟨⟨⟨_, p185, k185⟩, by kernel_rfl⟩, ⟨⟨⟨_, p183, k183⟩, by kernel_rfl⟩, ⟨⟨⟨_, p182, k182⟩, by kernel_rfl⟩, trivial, trivial⟩, ⟨⟨⟨_, p184, k184⟩, by kernel_rfl⟩, trivial, trivial⟩⟩, ⟨⟨⟨_, p187, k187⟩, by kernel_rfl⟩, ⟨⟨⟨_, p186, k186⟩, by kernel_rfl⟩, trivial, trivial⟩, trivial⟩⟩⟩⟩⟩⟩

end Go.Proofs.YtabipibmfjkedaaGreat
