/- The abstract code of the functions, printed by an own tool (gen.py), each checked against the program. -/
import Derived.Test.YtdbaldohbjnlpaaGreatProg
import Derived.Test.YtdbaldohbjnlpaaGreatAb31
import Derived.Test.YtdbaldohbjnlpaaGreatCode0
import Derived.KernelRfl
set_option maxRecDepth 100000
set_option linter.unusedVariables false
namespace Go.Proofs.YtdbaldohbjnlpaaGreat
open Go.Ab

/-- (*scrivener/scrivenerref15.Views).entry -/
def c149 : BCode :=
  (.seq (.reg [B 4 (.boxR (.t 1)), B 6 (.asg (.k (.c (.int .i64 0))))] [0, 2, 4])
  (.seq (.reg [B 14 (.fadr 35 (.t 4)), B 15 (.load false 1 (.t 14)), B 16 (.mv (.t 2)), B 17 (.iadr 46 (.t 15) (.t 16)), B 18 (.load true 46 (.t 17)), B 7 (.alloc [.int .i64 0, .str [], .int .i64 0, .int .i64 0, .int .i64 0, .int .i64 0, .int .i64 0, .int .i64 0, .str [], .sl 1 [] .nil, .sl 6 [] .nil, .int .u8 0, .int .u8 0, .int .u8 0, .int .u8 0, .int .u8 0, .int .u8 0, .int .u8 0, .int .u8 0, .int .u8 0, .int .u8 0, .int .u8 0, .int .u8 0, .int .u8 0, .int .u8 0, .int .u8 0, .int .u8 0, .int .u8 0, .int .u8 0, .int .u8 0, .int .u8 0, .int .u8 0, .int .u8 0, .int .u8 0, .int .u8 0, .int .u8 0, .int .u8 0, .int .u8 0, .int .u8 0, .int .u8 0, .int .u8 0, .int .u8 0, .int .u8 0, .bool false, .int .i64 0, .int .i64 0]), Bn (.store 46 (.t 7) (.t 18))] [0, 2, 4, 7])
  (.seq (.regd [Oo 19 (.mv (.t 0)), Oo 20 (.nilck (.t 19)), Oo 21 (.fadr 0 (.t 20)), Oo 22 (.load false 1 (.t 21)), Oo 23 (.load true 46 (.t 7)), Oo 24 (.call 205 [(.t 22), (.t 23)]), Oo 8 (.asg (.t 24))]
    (.fl 0 (.fl 1 (.fl 2 (.fl 3 (.fl 4 (.ch 5 [] (.ch 6 [] .done))))))) [0, 2, 4, 7, 8])
  (.seq (.seq (.reg [B 25 (.mv (.t 8)), B 26 (.bin .ne (.t 25) (.k (.c (.int .i64 0))))] [0, 2, 4, 7, 8, 26])
  (.cond (.t 26) (.seq (.reg [B 27 (.mv (.t 8)), B 6 (.asg (.t 27))] [6])
  .ret)
  .skip))
  (.seq (.seq (.reg [B 28 (.fadr 0 (.t 7)), B 29 (.load false 1 (.t 28))] [0, 2, 4, 7, 29])
  (.block 0 (.seq (.seq (.reg [B 31 (.bin .eq (.t 29) (.k (.c (.int .i64 2)))), B 30 (.asg (.t 31))] [0, 2, 4, 7, 29, 30])
  (.cond (.t 30) .skip
  (.reg [B 32 (.bin .eq (.t 29) (.k (.c (.int .i64 3)))), B 30 (.asg (.t 32))] [0, 2, 4, 7, 29, 30])))
  (.cond (.t 30) (.seq (.regd [Oo 34 (.mv (.t 0)), Oo 35 (.nilck (.t 34)), Oo 36 (.fadr 0 (.t 35)), Oo 37 (.load false 1 (.t 36)), Oo 38 (.fadr 2 (.t 7)), Oo 39 (.load false 1 (.t 38)), Oo 40 (.call 206 [(.t 37), (.t 39)]), Oo 33 (.mv (.t 40)), Oo 41 (.extract 0 (.t 33)), Oo 42 (.extract 1 (.t 33)), Oo 9 (.alloc [.int .i64 0, .str [], .bool false, .sl 1 [] .nil]), On (.store 4 (.t 9) (.t 41)), Oo 10 (.asg (.t 42))]
    (.fl 0 (.fl 1 (.fl 2 (.fl 3 (.fl 4 (.fl 5 (.alt 6 [] (.fl 7 (.fl 8 (.fl 9 (.ch 10 [3, 5] (.ch 11 [] (.ch 12 [] .done)))))) 10 [3, 5] (.ch 6 [] (.fl 7 (.fl 8 (.fl 9 (.ch 11 [] (.ch 12 [] .done))))))))))))) [0, 2, 4, 7, 9, 10])
  (.seq (.seq (.reg [B 43 (.mv (.t 10)), B 44 (.bin .ne (.t 43) (.k (.c (.int .i64 0)))), B 45 (.mv (.t 44)), Bg 46 (.fadr 2 (.t 9)) 45 false, Bg 47 (.load false 1 (.t 46)) 45 false, B 48 (.pick (.t 45) (.k (.c (.bool true))) (.t 47))] [0, 2, 4, 7, 48])
  (.cond (.t 48) (.seq (.reg [B 6 (.asg (.k (.c (.int .i64 3))))] [6])
  .ret)
  .skip))
  (.seq (.seq (.reg [B 49 (.fadr 4 (.t 7)), B 50 (.load false 1 (.t 49)), B 51 (.bin .eq (.t 50) (.k (.c (.int .i64 0))))] [0, 2, 4, 7, 51])
  (.cond (.t 51) (.seq (.regd [Oo 52 (.fadr 3 (.t 7)), Oo 53 (.load false 1 (.t 52)), Oo 54 (.mv (.t 0)), Oo 55 (.fadr 2 (.t 7)), Oo 56 (.load false 1 (.t 55)), Oo 57 (.call 207 [(.t 54), (.t 56)]), Oo 58 (.bin .ne (.t 53) (.t 57))]
    (.fl 0 (.fl 1 (.fl 2 (.fl 3 (.fl 4 (.ch 5 [1] (.fl 6 .done))))))) [0, 2, 4, 7, 58])
  (.cond (.t 58) (.seq (.reg [B 6 (.asg (.k (.c (.int .i64 3))))] [6])
  .ret)
  .skip))
  (.seq (.reg [B 59 (.mv (.t 0)), B 60 (.fadr 2 (.t 7)), B 61 (.load false 1 (.t 60)), B 62 (.fadr 3 (.t 7)), B 63 (.load false 1 (.t 62)), B 64 (.call 208 [(.t 59), (.t 61), (.t 63)]), B 11 (.asg (.t 64))] [0, 2, 4, 7, 11])
  (.seq (.regd [Oo 65 (.mv (.t 11)), Oo 66 (.bin .lt (.t 65) (.k (.c (.int .i64 0)))), Oo 67 (.mv (.t 66)), Og 68 (.mv (.t 0)) 67 false, Og 69 (.nilck (.t 68)) 67 false, Og 70 (.fadr 1 (.t 69)) 67 false, Og 71 (.load false 1 (.t 70)) 67 false, Og 72 (.mv (.t 11)) 67 false, Og 73 (.iadr 14 (.t 71) (.t 72)) 67 false, Og 74 (.fadr 10 (.t 73)) 67 false, Og 75 (.load false 1 (.t 74)) 67 false, Oo 76 (.pick (.t 67) (.k (.c (.bool true))) (.t 75)), Oo 77 (.mv (.t 76)), Og 78 (.mv (.t 0)) 77 false, Og 79 (.nilck (.t 78)) 77 false, Og 80 (.fadr 1 (.t 79)) 77 false, Og 81 (.load false 1 (.t 80)) 77 false, Og 82 (.mv (.t 11)) 77 false, Og 83 (.iadr 14 (.t 81) (.t 82)) 77 false, Og 84 (.fadr 2 (.t 83)) 77 false, Og 85 (.load false 1 (.t 84)) 77 false, Og 86 (.bin .add (.t 85) (.k (.c (.int .i64 1)))) 77 false, Og 87 (.fadr 4 (.t 7)) 77 false, Og 88 (.load false 1 (.t 87)) 77 false, Og 89 (.bin .ne (.t 86) (.t 88)) 77 false, Oo 90 (.pick (.t 77) (.k (.c (.bool true))) (.t 89))]
    (.fl 0 (.fl 1 (.fl 2 (.fl 3 (.fl 4 (.fl 5 (.fl 6 (.fl 7 (.fl 8 (.fl 9 (.fl 10 (.fl 11 (.fl 12 (.fl 13 (.fl 14 (.fl 15 (.fl 16 (.fl 17 (.fl 18 (.fl 19 (.fl 20 (.fl 21 (.fl 22 (.fl 23 (.fl 24 (.fl 25 .done)))))))))))))))))))))))))) [0, 2, 4, 7, 90])
  (.cond (.t 90) (.seq (.reg [B 6 (.asg (.k (.c (.int .i64 3))))] [6])
  .ret)
  .skip)))))
  (.regd [Oo 91 (.mv (.t 0)), Oo 92 (.mv (.t 0)), Oo 93 (.nilck (.t 92)), Oo 94 (.fadr 1 (.t 93)), Oo 95 (.load false 1 (.t 94)), Oo 96 (.fadr 2 (.t 7)), Oo 97 (.load false 1 (.t 96)), Oo 98 (.fadr 3 (.t 7)), Oo 99 (.load false 1 (.t 98)), Oo 100 (.fadr 4 (.t 7)), Oo 101 (.load false 1 (.t 100)), Oo 102 (.fadr 5 (.t 7)), Oo 103 (.load true 6 (.t 102)), Oo 104 (.call 31 [(.t 103)]), Oo 105 (.fadr 43 (.t 7)), Oo 106 (.load false 1 (.t 105)), Oo 107 (.fadr 0 (.t 7)), Oo 108 (.load false 1 (.t 107)), Oo 109 (.bin .eq (.t 108) (.k (.c (.int .i64 3)))), Oo 110 (.fadr 0 (.t 4)), Oo 111 (.load false 1 (.t 110)), Oo 112 (.mv (.t 2)), Oo 113 (.fadr 1 (.t 4)), Oo 114 (.load false 1 (.t 113)), Oo 115 (.build [.int .i64 0, .int .i64 0, .int .i64 0, .int .i64 0, .int .i64 0, .int .i64 0, .str [], .sl 1 [] .nil, .sl 6 [] .nil, .bool false, .bool false, .int .i64 0, .int .i64 0, .int .i64 0] [(0, 1, (.t 97)), (1, 1, (.t 99)), (2, 1, (.t 101)), (3, 6, (.t 104)), (9, 1, (.t 106)), (10, 1, (.t 109)), (11, 1, (.t 111)), (12, 1, (.t 112)), (13, 1, (.t 114))]), Oo 116 (.slR 14 1 [.int .i64 0, .int .i64 0, .int .i64 0, .int .i64 0, .int .i64 0, .int .i64 0, .str [], .sl 1 [] .nil, .sl 6 [] .nil, .bool false, .bool false, .int .i64 0, .int .i64 0, .int .i64 0] [(0, 14, (.t 115))]), Oo 117 (.app 14 144 (.t 95) (.t 116)), Oo 118 (.nilck (.t 91)), Oo 119 (.fadr 1 (.t 118)), On (.store 1 (.t 119) (.t 117))]
    (.fl 0 (.fl 1 (.fl 2 (.fl 3 (.fl 4 (.fl 5 (.fl 6 (.fl 7 (.fl 8 (.fl 9 (.fl 10 (.fl 11 (.fl 12 (.fl 14 (.fl 15 (.fl 16 (.fl 17 (.fl 18 (.fl 19 (.fl 20 (.fl 21 (.fl 22 (.fl 23 (.ch 13 [4, 6, 8, 10, 15, 17, 20, 23] (.fl 24 (.fl 25 (.ch 26 [] (.fl 27 (.fl 28 (.ch 29 [] .done)))))))))))))))))))))))))))))) []))))
  (.seq (.reg [B 121 (.bin .eq (.t 29) (.k (.c (.int .i64 4)))), B 120 (.asg (.t 121))] [0, 7, 120])
  (.cond (.t 120) (.seq (.seq (.reg [B 12 (.asg (.k (.c (.int .i64 0))))] [0, 7, 12])
  (.block 1 (.loop (.seq (.seq (.reg [B 122 (.mv (.t 12)), B 123 (.mv (.t 0)), B 124 (.nilck (.t 123)), B 125 (.fadr 1 (.t 124)), B 126 (.load false 1 (.t 125)), B 127 (.len (.t 126)), B 128 (.bin .lt (.t 122) (.t 127))] [0, 7, 12, 128])
  (.cond (.t 128) .skip
  (.exit 1)))
  (.seq (.block 2 (.seq (.reg [B 131 (.mv (.t 0)), B 132 (.nilck (.t 131)), B 133 (.fadr 1 (.t 132)), B 134 (.load false 1 (.t 133)), B 135 (.mv (.t 12)), B 136 (.iadr 14 (.t 134) (.t 135)), B 13 (.asg (.t 136))] [0, 7, 12, 13])
  (.seq (.regd [Oo 137 (.mv (.t 13)), Oo 138 (.nilck (.t 137)), Oo 139 (.fadr 11 (.t 138)), Oo 140 (.load false 1 (.t 139)), Oo 141 (.fadr 44 (.t 7)), Oo 142 (.fadr 0 (.t 141)), Oo 143 (.load false 1 (.t 142)), Oo 144 (.bin .eq (.t 140) (.t 143)), Oo 145 (.mv (.t 144)), Og 146 (.mv (.t 13)) 145 true, Og 147 (.nilck (.t 146)) 145 true, Og 148 (.fadr 12 (.t 147)) 145 true, Og 149 (.load false 1 (.t 148)) 145 true, Og 150 (.fadr 44 (.t 7)) 145 true, Og 151 (.fadr 1 (.t 150)) 145 true, Og 152 (.load false 1 (.t 151)) 145 true, Og 153 (.bin .eq (.t 149) (.t 152)) 145 true, Oo 154 (.pick (.t 145) (.t 153) (.k (.c (.bool false)))), Oo 155 (.mv (.t 154)), Og 156 (.mv (.t 13)) 155 true, Og 157 (.nilck (.t 156)) 155 true, Og 158 (.fadr 10 (.t 157)) 155 true, Og 159 (.load false 1 (.t 158)) 155 true, Og 160 (.not (.t 159)) 155 true, Oo 161 (.pick (.t 155) (.t 160) (.k (.c (.bool false)))), Oo 162 (.mv (.t 161)), Og 163 (.mv (.t 0)) 162 true, Og 164 (.nilck (.t 163)) 162 true, Og 165 (.fadr 3 (.t 164)) 162 true, Og 166 (.load false 1 (.t 165)) 162 true, Og 167 (.fadr 44 (.t 7)) 162 true, Og 168 (.load true 2 (.t 167)) 162 true, Og 169 (.lookup false (true, [.i .i64, .i .i64]) (.c (.int .i64 0)) (.t 166) (.t 168)) 162 true, Og 170 (.bin .eq (.t 169) (.k (.c (.int .i64 0)))) 162 true, Oo 171 (.pick (.t 162) (.t 170) (.k (.c (.bool false))))]
    (.fl 0 (.fl 1 (.fl 2 (.fl 3 (.fl 4 (.fl 5 (.fl 6 (.fl 7 (.fl 8 (.fl 9 (.fl 10 (.fl 11 (.fl 12 (.fl 13 (.fl 14 (.fl 15 (.fl 16 (.fl 17 (.fl 18 (.fl 19 (.fl 20 (.fl 21 (.fl 22 (.fl 23 (.fl 24 (.fl 25 (.fl 26 (.fl 27 (.fl 28 (.fl 29 (.fl 30 (.fl 31 (.fl 32 (.fl 33 (.fl 34 .done))))))))))))))))))))))))))))))))))) [0, 7, 12, 13, 171])
  (.cond (.t 171) (.seq (.regd [Oo 172 (.mv (.t 0)), Oo 173 (.nilck (.t 172)), Oo 174 (.fadr 3 (.t 173)), Oo 175 (.load false 1 (.t 174)), Oo 176 (.fadr 44 (.t 7)), Oo 177 (.load true 2 (.t 176)), On (.mupd (true, [.i .i64, .i .i64]) (.t 175) (.t 177) (.k (.c (.int .i64 1))))]
    (.fl 0 (.fl 1 (.fl 2 (.fl 3 (.fl 4 (.fl 5 (.ch 6 [] .done))))))) [13])
  (.seq (.reg [B 178 (.mv (.t 13)), B 179 (.nilck (.t 178)), B 180 (.fadr 9 (.t 179)), Bn (.store 1 (.t 180) (.k (.c (.bool true))))] [13])
  (.seq (.reg [B 181 (.mv (.t 13)), B 182 (.build [.int .i64 0, .int .i64 0, .int .i64 0, .str [], .sl 1 [] .nil, .sl 6 [] .nil] []), B 183 (.nilck (.t 181)), B 184 (.fadr 3 (.t 183)), Bn (.store 6 (.t 184) (.t 182))] [])
  (.seq (.reg [B 6 (.asg (.k (.c (.int .i64 0))))] [6])
  .ret))))
  .skip))))
  (.reg [B 129 (.mv (.t 12)), B 130 (.bin .add (.t 129) (.k (.c (.int .i64 1)))), B 12 (.asg (.t 130))] [0, 7, 12]))))))
  (.seq (.reg [B 6 (.asg (.k (.c (.int .i64 3))))] [6])
  .ret))
  .skip))))))
  (.seq (.reg [B 6 (.asg (.k (.c (.int .i64 0))))] [6])
  .ret))))))
def r149 : List ARes := [.tmp 6]
theorem k149 : bChk Tryz.prog 149 Tryz.f149 3 c149 r149 = true := by kernel_rfl
theorem p149 : Tryz.prog.funcs[149]? = some Tryz.f149 := by kernel_rfl

/-- (*scrivener/scrivenerref3.Disk).List -/
def c150 : BCode :=
  (.seq (.reg [B 2 (.asg (.k (.c (.sl 1 [] .nil))))] [0])
  (.seq (.reg [B 3 (.asg (.k (.c (.sl 1 [] .nil))))] [0, 3])
  (.seq (.seq (.reg [B 4 (.asg (.k (.c (.int .i64 0))))] [0, 3, 4])
  (.block 0 (.loop (.seq (.seq (.reg [B 5 (.mv (.t 4)), B 6 (.mv (.t 0)), B 7 (.nilck (.t 6)), B 8 (.fadr 1 (.t 7)), B 9 (.load false 1 (.t 8)), B 10 (.len (.t 9)), B 11 (.bin .lt (.t 5) (.t 10))] [0, 3, 4, 11])
  (.cond (.t 11) .skip
  (.exit 0)))
  (.seq (.block 1 (.reg [B 14 (.mv (.t 3)), B 15 (.mv (.t 0)), B 16 (.nilck (.t 15)), B 17 (.fadr 1 (.t 16)), B 18 (.load false 1 (.t 17)), B 19 (.mv (.t 4)), B 20 (.iadr 3 (.t 18) (.t 19)), B 21 (.fadr 0 (.t 20)), B 22 (.load false 1 (.t 21)), B 23 (.slR 1 1 [.str []] [(0, 1, (.t 22))]), B 24 (.app 1 16 (.t 14) (.t 23)), B 3 (.asg (.t 24))] [0, 3, 4]))
  (.reg [B 12 (.mv (.t 4)), B 13 (.bin .add (.t 12) (.k (.c (.int .i64 1)))), B 4 (.asg (.t 13))] [0, 3, 4]))))))
  (.seq (.reg [B 25 (.mv (.t 3)), B 2 (.asg (.t 25))] [2])
  .ret))))
def r150 : List ARes := [.tmp 2]
theorem k150 : bChk Tryz.prog 150 Tryz.f150 1 c150 r150 = true := by kernel_rfl
theorem p150 : Tryz.prog.funcs[150]? = some Tryz.f150 := by kernel_rfl

/-- (*scrivener/scrivenerref3.Disk).may -/
def c151 : BCode :=
  (.seq (.reg [B 4 (.asg (.k (.c (.int .i64 0))))] [0, 1])
  (.seq (.seq (.reg [B 6 (.mv (.t 0)), B 7 (.nilck (.t 6)), B 8 (.fadr 2 (.t 7)), B 9 (.load false 1 (.t 8)), B 10 (.bin .eq (.t 9) (.k (.c (.int .i64 0))))] [1, 10])
  (.cond (.t 10) (.seq (.reg [B 4 (.asg (.k (.c (.int .i64 20))))] [4])
  .ret)
  .skip))
  (.seq (.seq (.reg [B 5 (.asg (.k (.c (.int .i64 0))))] [1, 5])
  (.block 0 (.loop (.seq (.seq (.reg [B 11 (.mv (.t 5)), B 12 (.mv (.t 1)), B 13 (.len (.t 12)), B 14 (.bin .lt (.t 11) (.t 13))] [1, 5, 14])
  (.cond (.t 14) .skip
  (.exit 0)))
  (.seq (.block 1 (.seq (.reg [B 17 (.mv (.t 1)), B 18 (.mv (.t 5)), B 19 (.iadr 1 (.t 17) (.t 18)), B 20 (.load false 1 (.t 19)), B 21 (.slen (.t 20)), B 22 (.bin .lt (.t 21) (.k (.c (.int .i64 1)))), B 23 (.mv (.t 22)), Bg 24 (.mv (.t 1)) 23 false, Bg 25 (.mv (.t 5)) 23 false, Bg 26 (.iadr 1 (.t 24) (.t 25)) 23 false, Bg 27 (.load false 1 (.t 26)) 23 false, Bg 28 (.slen (.t 27)) 23 false, Bg 29 (.bin .gt (.t 28) (.k (.c (.int .i64 64)))) 23 false, B 30 (.pick (.t 23) (.k (.c (.bool true))) (.t 29))] [1, 5, 30])
  (.cond (.t 30) (.seq (.reg [B 4 (.asg (.k (.c (.int .i64 1))))] [4])
  .ret)
  .skip)))
  (.reg [B 15 (.mv (.t 5)), B 16 (.bin .add (.t 15) (.k (.c (.int .i64 1)))), B 5 (.asg (.t 16))] [1, 5]))))))
  (.seq (.reg [B 4 (.asg (.k (.c (.int .i64 0))))] [4])
  .ret))))
def r151 : List ARes := [.tmp 4]
theorem k151 : bChk Tryz.prog 151 Tryz.f151 2 c151 r151 = true := by kernel_rfl
theorem p151 : Tryz.prog.funcs[151]? = some Tryz.f151 := by kernel_rfl

/-- (*scrivener/scrivenerref3.Disk).spot -/
def c152 : BCode :=
  (.seq (.reg [B 4 (.asg (.k (.c (.int .i64 0)))), B 5 (.asg (.k (.c (.bool false))))] [0, 1])
  (.seq (.reg [B 6 (.asg (.k (.c (.int .i64 0))))] [0, 1, 6])
  (.seq (.block 0 (.loop (.seq (.seq (.reg [B 7 (.mv (.t 6)), B 8 (.mv (.t 0)), B 9 (.nilck (.t 8)), B 10 (.fadr 1 (.t 9)), B 11 (.load false 1 (.t 10)), B 12 (.len (.t 11)), B 13 (.bin .lt (.t 7) (.t 12)), B 14 (.mv (.t 13)), Bg 15 (.mv (.t 0)) 14 true, Bg 16 (.nilck (.t 15)) 14 true, Bg 17 (.fadr 1 (.t 16)) 14 true, Bg 18 (.load false 1 (.t 17)) 14 true, Bg 19 (.mv (.t 6)) 14 true, Bg 20 (.iadr 3 (.t 18) (.t 19)) 14 true, Bg 21 (.fadr 0 (.t 20)) 14 true, Bg 22 (.load false 1 (.t 21)) 14 true, Bg 23 (.mv (.t 1)) 14 true, Bg 24 (.bin .slt (.t 22) (.t 23)) 14 true, B 25 (.pick (.t 14) (.t 24) (.k (.c (.bool false))))] [0, 1, 6, 25])
  (.cond (.t 25) .skip
  (.exit 0)))
  (.block 1 (.reg [B 26 (.mv (.t 6)), B 27 (.bin .add (.t 26) (.k (.c (.int .i64 1)))), B 6 (.asg (.t 27))] [0, 1, 6])))))
  (.seq (.regd [Oo 28 (.mv (.t 6)), Oo 29 (.mv (.t 6)), Oo 30 (.mv (.t 0)), Oo 31 (.nilck (.t 30)), Oo 32 (.fadr 1 (.t 31)), Oo 33 (.load false 1 (.t 32)), Oo 34 (.len (.t 33)), Oo 35 (.bin .lt (.t 29) (.t 34)), Oo 36 (.mv (.t 35)), Og 37 (.mv (.t 0)) 36 true, Og 38 (.nilck (.t 37)) 36 true, Og 39 (.fadr 1 (.t 38)) 36 true, Og 40 (.load false 1 (.t 39)) 36 true, Og 41 (.mv (.t 6)) 36 true, Og 42 (.iadr 3 (.t 40) (.t 41)) 36 true, Og 43 (.fadr 0 (.t 42)) 36 true, Og 44 (.load false 1 (.t 43)) 36 true, Og 45 (.mv (.t 1)) 36 true, Og 46 (.bin .seq (.t 44) (.t 45)) 36 true, Oo 47 (.pick (.t 36) (.t 46) (.k (.c (.bool false)))), Oo 4 (.asg (.t 28)), Oo 5 (.asg (.t 47))]
    (.fl 0 (.fl 1 (.fl 2 (.fl 3 (.fl 4 (.fl 5 (.fl 6 (.fl 7 (.fl 8 (.fl 9 (.fl 10 (.fl 11 (.fl 12 (.fl 13 (.fl 14 (.fl 15 (.fl 16 (.fl 17 (.fl 18 (.fl 19 (.ch 20 [12, 14, 16] (.ch 21 [] .done)))))))))))))))))))))) [4, 5])
  .ret))))
def r152 : List ARes := [.tmp 4, .tmp 5]
theorem k152 : bChk Tryz.prog 152 Tryz.f152 2 c152 r152 = true := by kernel_rfl
theorem p152 : Tryz.prog.funcs[152]? = some Tryz.f152 := by kernel_rfl

/-- (*scrivener/scrivenerref3.Disk).Used -/
def c153 : BCode :=
  (.seq (.reg [B 2 (.asg (.k (.c (.int .i64 0))))] [0])
  (.seq (.reg [B 3 (.asg (.k (.c (.int .i64 0))))] [0, 3])
  (.seq (.seq (.reg [B 4 (.asg (.k (.c (.int .i64 0))))] [0, 3, 4])
  (.block 0 (.loop (.seq (.seq (.reg [B 5 (.mv (.t 4)), B 6 (.mv (.t 0)), B 7 (.nilck (.t 6)), B 8 (.fadr 1 (.t 7)), B 9 (.load false 1 (.t 8)), B 10 (.len (.t 9)), B 11 (.bin .lt (.t 5) (.t 10))] [0, 3, 4, 11])
  (.cond (.t 11) .skip
  (.exit 0)))
  (.seq (.block 1 (.reg [B 14 (.mv (.t 3)), B 15 (.mv (.t 0)), B 16 (.nilck (.t 15)), B 17 (.fadr 1 (.t 16)), B 18 (.load false 1 (.t 17)), B 19 (.mv (.t 4)), B 20 (.iadr 3 (.t 18) (.t 19)), B 21 (.fadr 1 (.t 20)), B 22 (.load false 1 (.t 21)), B 23 (.len (.t 22)), B 24 (.bin .add (.t 14) (.t 23)), B 3 (.asg (.t 24))] [0, 3, 4]))
  (.reg [B 12 (.mv (.t 4)), B 13 (.bin .add (.t 12) (.k (.c (.int .i64 1)))), B 4 (.asg (.t 13))] [0, 3, 4]))))))
  (.seq (.reg [B 25 (.mv (.t 3)), B 2 (.asg (.t 25))] [2])
  .ret))))
def r153 : List ARes := [.tmp 2]
theorem k153 : bChk Tryz.prog 153 Tryz.f153 1 c153 r153 = true := by kernel_rfl
theorem p153 : Tryz.prog.funcs[153]? = some Tryz.f153 := by kernel_rfl

/-- (*scrivener/scrivenerref3.Disk).did -/
def c154 : BCode :=
  (.seq (.reg [B 2 (.asg (.k (.c (.int .i64 0))))] [0])
  (.seq (.seq (.reg [B 3 (.mv (.t 0)), B 4 (.nilck (.t 3)), B 5 (.fadr 2 (.t 4)), B 6 (.load false 1 (.t 5)), B 7 (.bin .gt (.t 6) (.k (.c (.int .i64 0))))] [0, 7])
  (.cond (.t 7) (.reg [B 8 (.mv (.t 0)), B 9 (.nilck (.t 8)), B 10 (.fadr 2 (.t 9)), B 11 (.load false 1 (.t 10)), B 12 (.bin .sub (.t 11) (.k (.c (.int .i64 1)))), B 13 (.nilck (.t 8)), B 14 (.fadr 2 (.t 13)), Bn (.store 1 (.t 14) (.t 12))] [])
  .skip))
  (.seq (.reg [B 2 (.asg (.k (.c (.int .i64 0))))] [2])
  .ret)))
def r154 : List ARes := [.tmp 2]
theorem k154 : bChk Tryz.prog 154 Tryz.f154 1 c154 r154 = true := by kernel_rfl
theorem p154 : Tryz.prog.funcs[154]? = some Tryz.f154 := by kernel_rfl

/-- scrivener/scrivenerref1.Dec -/
def c155 : BCode :=
  (.seq (.reg [B 2 (.asg (.k (.c (.str []))))] [0])
  (.seq (.reg [B 3 (.asg (.k (.c (.str []))))] [0, 3])
  (.block 0 (.loop (.block 1 (.seq (.reg [B 4 (.mv (.t 0)), B 5 (.bin .rem (.t 4) (.k (.c (.int .u64 10)))), B 6 (.bin .add (.k (.c (.int .u64 48))) (.t 5)), B 7 (.conv .u8 (.t 6)), B 8 (.slR 1 1 [.int .u8 0] [(0, 1, (.t 7))]), B 9 (.bytess (.t 8)), B 10 (.mv (.t 3)), B 11 (.bin .sadd (.t 9) (.t 10)), B 3 (.asg (.t 11))] [0, 3])
  (.seq (.reg [B 12 (.mv (.t 0)), B 13 (.bin .quo (.t 12) (.k (.c (.int .u64 10)))), B 0 (.asg (.t 13))] [0, 3])
  (.seq (.reg [B 14 (.mv (.t 0)), B 15 (.bin .eq (.t 14) (.k (.c (.int .u64 0))))] [0, 3, 15])
  (.cond (.t 15) (.seq (.reg [B 16 (.mv (.t 3)), B 2 (.asg (.t 16))] [2])
  .ret)
  .skip)))))))))
def r155 : List ARes := [.tmp 2]
theorem k155 : bChk Tryz.prog 155 Tryz.f155 1 c155 r155 = true := by kernel_rfl
theorem p155 : Tryz.prog.funcs[155]? = some Tryz.f155 := by kernel_rfl

/-- (*scrivener/scrivenerref3.Disk).remove -/
def c156 : BCode :=
  (.seq (.reg [B 7 (.mv (.t 0)), B 8 (.mv (.t 1)), B 9 (.call 152 [(.t 7), (.t 8)]), B 6 (.mv (.t 9)), B 10 (.extract 0 (.t 6)), B 11 (.extract 1 (.t 6)), B 4 (.asg (.t 10)), B 5 (.asg (.t 11))] [0, 4, 5])
  (.seq (.reg [B 12 (.mv (.t 5))] [0, 4, 12])
  (.cond (.t 12) (.regd [Oo 13 (.mv (.t 0)), Oo 14 (.slE 3), Oo 15 (.mv (.t 0)), Oo 16 (.nilck (.t 15)), Oo 17 (.fadr 1 (.t 16)), Oo 18 (.load false 1 (.t 17)), Oo 19 (.mv (.t 4)), Oo 20 (.slice 3 (.t 18) none (some (.t 19)) none), Oo 21 (.appM 3 48 (.t 14) (.t 20)), Oo 22 (.mv (.t 0)), Oo 23 (.nilck (.t 22)), Oo 24 (.fadr 1 (.t 23)), Oo 25 (.load false 1 (.t 24)), Oo 26 (.mv (.t 4)), Oo 27 (.bin .add (.t 26) (.k (.c (.int .i64 1)))), Oo 28 (.slice 3 (.t 25) (some (.t 27)) none none), Oo 29 (.appM 3 48 (.t 21) (.t 28)), Oo 30 (.nilck (.t 13)), Oo 31 (.fadr 1 (.t 30)), On (.store 1 (.t 31) (.t 29))]
    (.fl 0 (.fl 1 (.fl 2 (.fl 3 (.fl 4 (.fl 5 (.fl 6 (.fl 7 (.fl 9 (.fl 10 (.fl 11 (.fl 12 (.fl 13 (.fl 14 (.fl 15 (.ch 8 [12, 15] (.ch 16 [] (.fl 17 (.fl 18 (.ch 19 [] .done)))))))))))))))))))) [])
  .skip)))
def r156 : List ARes := []
theorem k156 : bChk Tryz.prog 156 Tryz.f156 2 c156 r156 = true := by kernel_rfl
theorem p156 : Tryz.prog.funcs[156]? = some Tryz.f156 := by kernel_rfl

/-- scrivener/value.Check -/
def c157 : BCode :=
  (.seq (.reg [B 1 (.boxR (.t 0)), B 2 (.asg (.k (.c (.int .i64 0))))] [1])
  (.seq (.reg [B 3 (.load true 6 (.t 1)), B 4 (.call 209 [(.t 3), (.k (.c (.int .i64 1)))]), B 2 (.asg (.t 4))] [2])
  .ret))
def r157 : List ARes := [.tmp 2]
theorem k157 : bChk Tryz.prog 157 Tryz.f157 1 c157 r157 = true := by kernel_rfl
theorem p157 : Tryz.prog.funcs[157]? = some Tryz.f157 := by kernel_rfl

/-- scrivener/codec.lay -/
def c158 : BCode :=
  (.seq (.reg [B 2 (.box (.t 0)), B 3 (.boxR (.t 1)), B 4 (.asg (.k (.c (.sl 1 [] .nil))))] [2, 3])
  (.seq (.reg [B 8 (.mkfn 210 [(.t 2)]), B 5 (.asg (.t 8))] [2, 3, 5])
  (.seq (.reg [B 9 (.load false 1 (.t 2)), B 10 (.fadr 0 (.t 3)), B 11 (.load false 1 (.t 10)), B 12 (.conv .u8 (.t 11)), B 13 (.slR 1 1 [.int .u8 0] [(0, 1, (.t 12))]), B 14 (.app 1 1 (.t 9) (.t 13)), Bn (.store 1 (.t 2) (.t 14))] [2, 3, 5])
  (.seq (.seq (.reg [B 15 (.fadr 0 (.t 3)), B 16 (.load false 1 (.t 15))] [2, 3, 5, 16])
  (.block 0 (.seq (.reg [B 18 (.bin .eq (.t 16) (.k (.c (.int .i64 2)))), B 17 (.asg (.t 18))] [2, 3, 5, 16, 17])
  (.cond (.t 17) (.reg [B 19 (.load false 1 (.t 2)), B 20 (.fadr 1 (.t 3)), B 21 (.load false 1 (.t 20)), B 22 (.conv .u8 (.t 21)), B 23 (.slR 1 1 [.int .u8 0] [(0, 1, (.t 22))]), B 24 (.app 1 1 (.t 19) (.t 23)), Bn (.store 1 (.t 2) (.t 24))] [2])
  (.seq (.reg [B 26 (.bin .eq (.t 16) (.k (.c (.int .i64 3)))), B 25 (.asg (.t 26))] [2, 3, 5, 16, 25])
  (.cond (.t 25) (.reg [B 27 (.mv (.t 5)), B 28 (.fadr 1 (.t 3)), B 29 (.load false 1 (.t 28)), B 30 (.call 97 [(.t 29)]), B 31 (.callv (.t 27) [(.t 30)])] [2])
  (.seq (.reg [B 33 (.bin .eq (.t 16) (.k (.c (.int .i64 4)))), B 32 (.asg (.t 33))] [2, 3, 5, 16, 32])
  (.cond (.t 32) (.seq (.reg [B 34 (.mv (.t 5)), B 35 (.fadr 1 (.t 3)), B 36 (.load false 1 (.t 35)), B 37 (.call 97 [(.t 36)]), B 38 (.callv (.t 34) [(.t 37)])] [2, 3])
  (.reg [B 39 (.load false 1 (.t 2)), B 40 (.fadr 2 (.t 3)), B 41 (.load false 1 (.t 40)), B 42 (.conv .u8 (.t 41)), B 43 (.slR 1 1 [.int .u8 0] [(0, 1, (.t 42))]), B 44 (.app 1 1 (.t 39) (.t 43)), Bn (.store 1 (.t 2) (.t 44))] [2]))
  (.seq (.reg [B 46 (.bin .eq (.t 16) (.k (.c (.int .i64 5)))), B 45 (.asg (.t 46))] [2, 3, 5, 16, 45])
  (.cond (.t 45) (.reg [B 47 (.mv (.t 5)), B 48 (.fadr 1 (.t 3)), B 49 (.load false 1 (.t 48)), B 50 (.conv .u64 (.t 49)), B 51 (.callv (.t 47) [(.t 50)])] [2])
  (.seq (.seq (.reg [B 53 (.bin .eq (.t 16) (.k (.c (.int .i64 6)))), B 52 (.asg (.t 53))] [2, 3, 5, 16, 52])
  (.cond (.t 52) .skip
  (.reg [B 54 (.bin .eq (.t 16) (.k (.c (.int .i64 7)))), B 52 (.asg (.t 54))] [2, 3, 5, 16, 52])))
  (.cond (.t 52) (.seq (.reg [B 55 (.mv (.t 5)), B 56 (.fadr 3 (.t 3)), B 57 (.load false 1 (.t 56)), B 58 (.slen (.t 57)), B 59 (.conv .u64 (.t 58)), B 60 (.callv (.t 55) [(.t 59)])] [2, 3])
  (.reg [B 61 (.load false 1 (.t 2)), B 62 (.fadr 3 (.t 3)), B 63 (.load false 1 (.t 62)), B 64 (.app 1 1 (.t 61) (.t 63)), Bn (.store 1 (.t 2) (.t 64))] [2]))
  (.seq (.seq (.reg [B 66 (.bin .eq (.t 16) (.k (.c (.int .i64 8)))), B 65 (.asg (.t 66))] [2, 3, 5, 16, 65])
  (.cond (.t 65) .skip
  (.reg [B 67 (.bin .eq (.t 16) (.k (.c (.int .i64 9)))), B 65 (.asg (.t 67))] [2, 3, 5, 65])))
  (.cond (.t 65) (.seq (.reg [B 68 (.mv (.t 5)), B 69 (.fadr 5 (.t 3)), B 70 (.load false 1 (.t 69)), B 71 (.len (.t 70)), B 72 (.conv .u64 (.t 71)), B 73 (.callv (.t 68) [(.t 72)])] [2, 3, 5])
  (.seq (.reg [B 74 (.fadr 5 (.t 3)), B 75 (.load false 1 (.t 74)), B 76 (.len (.t 75)), B 77 (.mv (.k (.c (.int .i64 0))))] [2, 3, 5, 75, 76, 77])
  (.block 1 (.loop (.seq (.reg [B 78 (.bin .lt (.t 77) (.t 76))] [2, 3, 5, 75, 76, 77, 78])
  (.seq (.cond (.t 78) .skip
  (.exit 1))
  (.seq (.block 2 (.seq (.reg [B 79 (.mv (.t 77)), B 80 (.iadr 6 (.t 75) (.t 77)), B 81 (.load true 6 (.t 80)), B 7 (.alloc [.int .i64 0, .int .i64 0, .int .i64 0, .str [], .sl 1 [] .nil, .sl 6 [] .nil]), B 6 (.asg (.t 79)), Bn (.store 6 (.t 7) (.t 81))] [2, 3, 5, 6, 7, 75, 76, 77])
  (.seq (.seq (.reg [B 82 (.fadr 0 (.t 3)), B 83 (.load false 1 (.t 82)), B 84 (.bin .eq (.t 83) (.k (.c (.int .i64 9))))] [2, 3, 5, 6, 7, 75, 76, 77, 84])
  (.cond (.t 84) (.seq (.reg [B 85 (.mv (.t 5)), B 86 (.fadr 4 (.t 3)), B 87 (.load false 1 (.t 86)), B 88 (.mv (.t 6)), B 89 (.iadr 1 (.t 87) (.t 88)), B 90 (.load false 1 (.t 89)), B 91 (.slen (.t 90)), B 92 (.conv .u64 (.t 91)), B 93 (.callv (.t 85) [(.t 92)])] [2, 3, 5, 6, 7, 75, 76, 77])
  (.regd [Oo 94 (.load false 1 (.t 2)), Oo 95 (.fadr 4 (.t 3)), Oo 96 (.load false 1 (.t 95)), Oo 97 (.mv (.t 6)), Oo 98 (.iadr 1 (.t 96) (.t 97)), Oo 99 (.load false 1 (.t 98)), Oo 100 (.app 1 1 (.t 94) (.t 99)), On (.store 1 (.t 2) (.t 100))]
    (.fl 0 (.fl 1 (.fl 2 (.fl 3 (.fl 4 (.fl 5 (.ch 6 [] (.ch 7 [] .done)))))))) [2, 3, 5, 7, 75, 76, 77]))
  .skip))
  (.reg [B 101 (.load false 1 (.t 2)), B 102 (.load true 6 (.t 7)), B 103 (.call 158 [(.t 101), (.t 102)]), Bn (.store 1 (.t 2) (.t 103))] [2, 3, 5, 75, 76, 77]))))
  (.reg [B 104 (.bin .add (.t 77) (.k (.c (.int .i64 1)))), B 77 (.mv (.t 104))] [2, 3, 5, 75, 76, 77]))))))))
  .skip))))))))))))))
  (.seq (.reg [B 105 (.load false 1 (.t 2)), B 4 (.asg (.t 105))] [4])
  .ret)))))
def r158 : List ARes := [.tmp 4]
theorem k158 : bChk Tryz.prog 158 Tryz.f158 2 c158 r158 = true := by kernel_rfl
theorem p158 : Tryz.prog.funcs[158]? = some Tryz.f158 := by kernel_rfl

/-- scrivener/scrivenerref5.check -/
def c159 : BCode :=
  (.seq (.reg [B 2 (.boxR (.t 0)), B 4 (.asg (.k (.c (.int .i64 0))))] [1, 2])
  (.seq (.seq (.reg [B 10 (.mv (.t 1)), B 11 (.bin .gt (.t 10) (.k (.c (.int .i64 16))))] [1, 2, 11])
  (.cond (.t 11) (.seq (.reg [B 4 (.asg (.k (.c (.int .i64 9))))] [4])
  .ret)
  .skip))
  (.seq (.reg [B 12 (.fadr 3 (.t 2)), B 13 (.load false 1 (.t 12)), B 14 (.bin .sne (.t 13) (.k (.c (.str [])))), B 5 (.asg (.t 14))] [1, 2, 5])
  (.seq (.reg [B 15 (.fadr 5 (.t 2)), B 16 (.load false 1 (.t 15)), B 17 (.len (.t 16)), B 18 (.bin .gt (.t 17) (.k (.c (.int .i64 0)))), B 19 (.mv (.t 18)), Bg 20 (.fadr 4 (.t 2)) 19 false, Bg 21 (.load false 1 (.t 20)) 19 false, Bg 22 (.len (.t 21)) 19 false, Bg 23 (.bin .gt (.t 22) (.k (.c (.int .i64 0)))) 19 false, B 24 (.pick (.t 19) (.k (.c (.bool true))) (.t 23)), B 6 (.asg (.t 24))] [1, 2, 5, 6])
  (.seq (.seq (.reg [B 25 (.fadr 0 (.t 2)), B 26 (.load false 1 (.t 25))] [1, 2, 5, 6, 26])
  (.block 0 (.seq (.reg [B 28 (.bin .eq (.t 26) (.k (.c (.int .i64 1)))), B 27 (.asg (.t 28))] [1, 2, 5, 6, 26, 27])
  (.cond (.t 27) (.seq (.reg [B 29 (.fadr 1 (.t 2)), B 30 (.load false 1 (.t 29)), B 31 (.bin .ne (.t 30) (.k (.c (.int .i64 0)))), B 32 (.mv (.t 31)), Bg 33 (.fadr 2 (.t 2)) 32 false, Bg 34 (.load false 1 (.t 33)) 32 false, Bg 35 (.bin .ne (.t 34) (.k (.c (.int .i64 0)))) 32 false, B 36 (.pick (.t 32) (.k (.c (.bool true))) (.t 35)), B 37 (.mv (.t 36)), Bg 38 (.mv (.t 5)) 37 false, B 39 (.pick (.t 37) (.k (.c (.bool true))) (.t 38)), B 40 (.mv (.t 39)), Bg 41 (.mv (.t 6)) 40 false, B 42 (.pick (.t 40) (.k (.c (.bool true))) (.t 41))] [1, 2, 42])
  (.cond (.t 42) (.seq (.reg [B 4 (.asg (.k (.c (.int .i64 3))))] [4])
  .ret)
  .skip))
  (.seq (.reg [B 44 (.bin .eq (.t 26) (.k (.c (.int .i64 2)))), B 43 (.asg (.t 44))] [1, 2, 5, 6, 26, 43])
  (.cond (.t 43) (.seq (.reg [B 45 (.fadr 1 (.t 2)), B 46 (.load false 1 (.t 45)), B 47 (.bin .lt (.t 46) (.k (.c (.int .i64 0)))), B 48 (.mv (.t 47)), Bg 49 (.fadr 1 (.t 2)) 48 false, Bg 50 (.load false 1 (.t 49)) 48 false, Bg 51 (.bin .gt (.t 50) (.k (.c (.int .i64 1)))) 48 false, B 52 (.pick (.t 48) (.k (.c (.bool true))) (.t 51)), B 53 (.mv (.t 52)), Bg 54 (.fadr 2 (.t 2)) 53 false, Bg 55 (.load false 1 (.t 54)) 53 false, Bg 56 (.bin .ne (.t 55) (.k (.c (.int .i64 0)))) 53 false, B 57 (.pick (.t 53) (.k (.c (.bool true))) (.t 56)), B 58 (.mv (.t 57)), Bg 59 (.mv (.t 5)) 58 false, B 60 (.pick (.t 58) (.k (.c (.bool true))) (.t 59)), B 61 (.mv (.t 60)), Bg 62 (.mv (.t 6)) 61 false, B 63 (.pick (.t 61) (.k (.c (.bool true))) (.t 62))] [1, 2, 63])
  (.cond (.t 63) (.seq (.reg [B 4 (.asg (.k (.c (.int .i64 3))))] [4])
  .ret)
  .skip))
  (.seq (.reg [B 65 (.bin .eq (.t 26) (.k (.c (.int .i64 3)))), B 64 (.asg (.t 65))] [1, 2, 5, 6, 26, 64])
  (.cond (.t 64) (.seq (.reg [B 66 (.fadr 2 (.t 2)), B 67 (.load false 1 (.t 66)), B 68 (.bin .ne (.t 67) (.k (.c (.int .i64 0)))), B 69 (.mv (.t 68)), Bg 70 (.mv (.t 5)) 69 false, B 71 (.pick (.t 69) (.k (.c (.bool true))) (.t 70)), B 72 (.mv (.t 71)), Bg 73 (.mv (.t 6)) 72 false, B 74 (.pick (.t 72) (.k (.c (.bool true))) (.t 73))] [1, 2, 74])
  (.cond (.t 74) (.seq (.reg [B 4 (.asg (.k (.c (.int .i64 3))))] [4])
  .ret)
  .skip))
  (.seq (.reg [B 76 (.bin .eq (.t 26) (.k (.c (.int .i64 4)))), B 75 (.asg (.t 76))] [1, 2, 5, 6, 26, 75])
  (.cond (.t 75) (.seq (.reg [B 77 (.fadr 2 (.t 2)), B 78 (.load false 1 (.t 77)), B 79 (.bin .lt (.t 78) (.k (.c (.int .i64 1)))), B 80 (.mv (.t 79)), Bg 81 (.fadr 2 (.t 2)) 80 false, Bg 82 (.load false 1 (.t 81)) 80 false, Bg 83 (.bin .gt (.t 82) (.k (.c (.int .i64 18)))) 80 false, B 84 (.pick (.t 80) (.k (.c (.bool true))) (.t 83)), B 85 (.mv (.t 84)), Bg 86 (.fadr 1 (.t 2)) 85 false, Bg 87 (.load false 1 (.t 86)) 85 false, Bg 88 (.bin .rem (.t 87) (.k (.c (.int .i64 10)))) 85 false, Bg 89 (.bin .eq (.t 88) (.k (.c (.int .i64 0)))) 85 false, B 90 (.pick (.t 85) (.k (.c (.bool true))) (.t 89)), B 91 (.mv (.t 90)), Bg 92 (.mv (.t 5)) 91 false, B 93 (.pick (.t 91) (.k (.c (.bool true))) (.t 92)), B 94 (.mv (.t 93)), Bg 95 (.mv (.t 6)) 94 false, B 96 (.pick (.t 94) (.k (.c (.bool true))) (.t 95))] [1, 2, 96])
  (.cond (.t 96) (.seq (.reg [B 4 (.asg (.k (.c (.int .i64 3))))] [4])
  .ret)
  .skip))
  (.seq (.reg [B 98 (.bin .eq (.t 26) (.k (.c (.int .i64 5)))), B 97 (.asg (.t 98))] [1, 2, 5, 6, 26, 97])
  (.cond (.t 97) (.seq (.reg [B 99 (.fadr 1 (.t 2)), B 100 (.load false 1 (.t 99)), B 101 (.bin .lt (.t 100) (.k (.c (.int .i64 0)))), B 102 (.mv (.t 101)), Bg 103 (.fadr 1 (.t 2)) 102 false, Bg 104 (.load false 1 (.t 103)) 102 false, Bg 105 (.bin .gt (.t 104) (.k (.c (.int .i64 9007199254740992)))) 102 false, B 106 (.pick (.t 102) (.k (.c (.bool true))) (.t 105)), B 107 (.mv (.t 106)), Bg 108 (.fadr 2 (.t 2)) 107 false, Bg 109 (.load false 1 (.t 108)) 107 false, Bg 110 (.bin .ne (.t 109) (.k (.c (.int .i64 0)))) 107 false, B 111 (.pick (.t 107) (.k (.c (.bool true))) (.t 110)), B 112 (.mv (.t 111)), Bg 113 (.mv (.t 5)) 112 false, B 114 (.pick (.t 112) (.k (.c (.bool true))) (.t 113)), B 115 (.mv (.t 114)), Bg 116 (.mv (.t 6)) 115 false, B 117 (.pick (.t 115) (.k (.c (.bool true))) (.t 116))] [1, 2, 117])
  (.cond (.t 117) (.seq (.reg [B 4 (.asg (.k (.c (.int .i64 3))))] [4])
  .ret)
  .skip))
  (.seq (.seq (.reg [B 119 (.bin .eq (.t 26) (.k (.c (.int .i64 6)))), B 118 (.asg (.t 119))] [1, 2, 5, 6, 26, 118])
  (.cond (.t 118) .skip
  (.reg [B 120 (.bin .eq (.t 26) (.k (.c (.int .i64 7)))), B 118 (.asg (.t 120))] [1, 2, 5, 6, 26, 118])))
  (.cond (.t 118) (.seq (.seq (.reg [B 121 (.fadr 1 (.t 2)), B 122 (.load false 1 (.t 121)), B 123 (.bin .ne (.t 122) (.k (.c (.int .i64 0)))), B 124 (.mv (.t 123)), Bg 125 (.fadr 2 (.t 2)) 124 false, Bg 126 (.load false 1 (.t 125)) 124 false, Bg 127 (.bin .ne (.t 126) (.k (.c (.int .i64 0)))) 124 false, B 128 (.pick (.t 124) (.k (.c (.bool true))) (.t 127)), B 129 (.mv (.t 128)), Bg 130 (.mv (.t 6)) 129 false, B 131 (.pick (.t 129) (.k (.c (.bool true))) (.t 130))] [1, 2, 131])
  (.cond (.t 131) (.seq (.reg [B 4 (.asg (.k (.c (.int .i64 3))))] [4])
  .ret)
  .skip))
  (.seq (.reg [B 132 (.fadr 3 (.t 2)), B 133 (.load false 1 (.t 132)), B 134 (.slen (.t 133)), B 135 (.bin .gt (.t 134) (.k (.c (.int .i64 16384))))] [1, 2, 135])
  (.cond (.t 135) (.seq (.reg [B 4 (.asg (.k (.c (.int .i64 5))))] [4])
  .ret)
  .skip)))
  (.seq (.seq (.reg [B 137 (.bin .eq (.t 26) (.k (.c (.int .i64 8)))), B 136 (.asg (.t 137))] [1, 2, 5, 26, 136])
  (.cond (.t 136) .skip
  (.reg [B 138 (.bin .eq (.t 26) (.k (.c (.int .i64 9)))), B 136 (.asg (.t 138))] [1, 2, 5, 136])))
  (.cond (.t 136) (.seq (.seq (.reg [B 139 (.fadr 1 (.t 2)), B 140 (.load false 1 (.t 139)), B 141 (.bin .ne (.t 140) (.k (.c (.int .i64 0)))), B 142 (.mv (.t 141)), Bg 143 (.fadr 2 (.t 2)) 142 false, Bg 144 (.load false 1 (.t 143)) 142 false, Bg 145 (.bin .ne (.t 144) (.k (.c (.int .i64 0)))) 142 false, B 146 (.pick (.t 142) (.k (.c (.bool true))) (.t 145)), B 147 (.mv (.t 146)), Bg 148 (.mv (.t 5)) 147 false, B 149 (.pick (.t 147) (.k (.c (.bool true))) (.t 148)), B 150 (.mv (.t 149)), Bg 151 (.fadr 0 (.t 2)) 150 false, Bg 152 (.load false 1 (.t 151)) 150 false, Bg 153 (.bin .eq (.t 152) (.k (.c (.int .i64 8)))) 150 false, Bg 154 (.mv (.t 153)) 150 false, Bg 155 (.fadr 4 (.t 2)) 154 true, Bg 156 (.load false 1 (.t 155)) 154 true, Bg 157 (.len (.t 156)) 154 true, Bg 158 (.bin .gt (.t 157) (.k (.c (.int .i64 0)))) 154 true, Bg 159 (.pick (.t 154) (.t 158) (.k (.c (.bool false)))) 150 false, B 160 (.pick (.t 150) (.k (.c (.bool true))) (.t 159))] [1, 2, 160])
  (.cond (.t 160) (.seq (.reg [B 4 (.asg (.k (.c (.int .i64 3))))] [4])
  .ret)
  .skip))
  (.seq (.seq (.reg [B 161 (.fadr 5 (.t 2)), B 162 (.load false 1 (.t 161)), B 163 (.len (.t 162)), B 164 (.bin .gt (.t 163) (.k (.c (.int .i64 200))))] [1, 2, 164])
  (.cond (.t 164) (.seq (.reg [B 4 (.asg (.k (.c (.int .i64 5))))] [4])
  .ret)
  .skip))
  (.seq (.seq (.reg [B 165 (.fadr 0 (.t 2)), B 166 (.load false 1 (.t 165)), B 167 (.bin .eq (.t 166) (.k (.c (.int .i64 8))))] [1, 2, 167])
  (.cond (.t 167) (.exit 0)
  .skip))
  (.seq (.seq (.reg [B 168 (.fadr 4 (.t 2)), B 169 (.load false 1 (.t 168)), B 170 (.len (.t 169)), B 171 (.fadr 5 (.t 2)), B 172 (.load false 1 (.t 171)), B 173 (.len (.t 172)), B 174 (.bin .ne (.t 170) (.t 173))] [1, 2, 174])
  (.cond (.t 174) (.seq (.reg [B 4 (.asg (.k (.c (.int .i64 3))))] [4])
  .ret)
  .skip))
  (.seq (.reg [B 7 (.asg (.k (.c (.int .i64 0))))] [1, 2, 7])
  (.block 1 (.loop (.seq (.seq (.reg [B 175 (.mv (.t 7)), B 176 (.fadr 4 (.t 2)), B 177 (.load false 1 (.t 176)), B 178 (.len (.t 177)), B 179 (.bin .lt (.t 175) (.t 178))] [1, 2, 7, 179])
  (.cond (.t 179) .skip
  (.exit 1)))
  (.seq (.block 2 (.seq (.regd [Oo 182 (.fadr 4 (.t 2)), Oo 183 (.load false 1 (.t 182)), Oo 184 (.mv (.t 7)), Oo 185 (.iadr 1 (.t 183) (.t 184)), Oo 186 (.load false 1 (.t 185)), Oo 187 (.slen (.t 186)), Oo 188 (.bin .lt (.t 187) (.k (.c (.int .i64 1)))), Oo 189 (.mv (.t 188)), Og 190 (.fadr 4 (.t 2)) 189 false, Og 191 (.load false 1 (.t 190)) 189 false, Og 192 (.mv (.t 7)) 189 false, Og 193 (.iadr 1 (.t 191) (.t 192)) 189 false, Og 194 (.load false 1 (.t 193)) 189 false, Og 195 (.slen (.t 194)) 189 false, Og 196 (.bin .gt (.t 195) (.k (.c (.int .i64 40)))) 189 false, Oo 197 (.pick (.t 189) (.k (.c (.bool true))) (.t 196)), Oo 198 (.mv (.t 197)), Og 199 (.mv (.t 7)) 198 false, Og 200 (.bin .gt (.t 199) (.k (.c (.int .i64 0)))) 198 false, Og 201 (.mv (.t 200)) 198 false, Og 202 (.fadr 4 (.t 2)) 201 true, Og 203 (.load false 1 (.t 202)) 201 true, Og 204 (.mv (.t 7)) 201 true, Og 205 (.iadr 1 (.t 203) (.t 204)) 201 true, Og 206 (.load false 1 (.t 205)) 201 true, Og 207 (.fadr 4 (.t 2)) 201 true, Og 208 (.load false 1 (.t 207)) 201 true, Og 209 (.mv (.t 7)) 201 true, Og 210 (.bin .sub (.t 209) (.k (.c (.int .i64 1)))) 201 true, Og 211 (.iadr 1 (.t 208) (.t 210)) 201 true, Og 212 (.load false 1 (.t 211)) 201 true, Og 213 (.bin .sle (.t 206) (.t 212)) 201 true, Og 214 (.pick (.t 201) (.t 213) (.k (.c (.bool false)))) 198 false, Oo 215 (.pick (.t 198) (.k (.c (.bool true))) (.t 214))]
    (.fl 0 (.fl 1 (.fl 2 (.fl 3 (.fl 4 (.fl 5 (.fl 6 (.fl 7 (.fl 8 (.fl 9 (.fl 10 (.fl 11 (.fl 12 (.fl 13 (.fl 14 (.fl 15 (.fl 16 (.fl 17 (.fl 18 (.fl 19 (.fl 20 (.fl 21 (.fl 22 (.fl 23 (.fl 24 (.fl 25 (.fl 26 (.fl 27 (.fl 28 (.fl 29 (.fl 30 (.fl 31 (.fl 32 (.fl 33 .done)))))))))))))))))))))))))))))))))) [1, 2, 7, 215])
  (.cond (.t 215) (.seq (.reg [B 4 (.asg (.k (.c (.int .i64 3))))] [4])
  .ret)
  .skip)))
  (.reg [B 180 (.mv (.t 7)), B 181 (.bin .add (.t 180) (.k (.c (.int .i64 1)))), B 7 (.asg (.t 181))] [1, 2, 7]))))))))))
  (.seq (.reg [B 4 (.asg (.k (.c (.int .i64 3))))] [4])
  .ret)))))))))))))))))
  (.seq (.seq (.reg [B 8 (.asg (.k (.c (.int .i64 0))))] [1, 2, 8])
  (.block 3 (.loop (.seq (.seq (.reg [B 216 (.mv (.t 8)), B 217 (.fadr 5 (.t 2)), B 218 (.load false 1 (.t 217)), B 219 (.len (.t 218)), B 220 (.bin .lt (.t 216) (.t 219))] [1, 2, 8, 220])
  (.cond (.t 220) .skip
  (.exit 3)))
  (.seq (.block 4 (.seq (.reg [B 223 (.fadr 5 (.t 2)), B 224 (.load false 1 (.t 223)), B 225 (.mv (.t 8)), B 226 (.iadr 6 (.t 224) (.t 225)), B 227 (.load true 6 (.t 226)), B 228 (.mv (.t 1)), B 229 (.bin .add (.t 228) (.k (.c (.int .i64 1)))), B 230 (.call 159 [(.t 227), (.t 229)]), B 9 (.asg (.t 230))] [1, 2, 8, 9])
  (.seq (.reg [B 231 (.mv (.t 9)), B 232 (.bin .ne (.t 231) (.k (.c (.int .i64 0))))] [1, 2, 8, 9, 232])
  (.cond (.t 232) (.seq (.reg [B 233 (.mv (.t 9)), B 4 (.asg (.t 233))] [4])
  .ret)
  .skip))))
  (.reg [B 221 (.mv (.t 8)), B 222 (.bin .add (.t 221) (.k (.c (.int .i64 1)))), B 8 (.asg (.t 222))] [1, 2, 8]))))))
  (.seq (.reg [B 4 (.asg (.k (.c (.int .i64 0))))] [4])
  .ret)))))))
def r159 : List ARes := [.tmp 4]
theorem k159 : bChk Tryz.prog 159 Tryz.f159 2 c159 r159 = true := by kernel_rfl
theorem p159 : Tryz.prog.funcs[159]? = some Tryz.f159 := by kernel_rfl

/-- scrivener/scrivenerref7.text -/
def c160 : BCode :=
  (.seq (.reg [B 4 (.asg (.k (.c (.sl 1 [] .nil))))] [0, 1])
  (.seq (.reg [B 5 (.mv (.t 0)), B 6 (.mv (.t 1)), B 7 (.slen (.t 6)), B 8 (.conv .u64 (.t 7)), B 9 (.call 57 [(.t 8)]), B 10 (.app 1 1 (.t 5) (.t 9)), B 0 (.asg (.t 10))] [0, 1])
  (.seq (.reg [B 11 (.mv (.t 0)), B 12 (.mv (.t 1)), B 13 (.app 1 1 (.t 11) (.t 12)), B 4 (.asg (.t 13))] [4])
  .ret)))
def r160 : List ARes := [.tmp 4]
theorem k160 : bChk Tryz.prog 160 Tryz.f160 2 c160 r160 = true := by kernel_rfl
theorem p160 : Tryz.prog.funcs[160]? = some Tryz.f160 := by kernel_rfl

/-- scrivener/octet.ReadBig -/
def c161 : BCode :=
  (.seq (.reg [B 2 (.asg (.k (.c (.int .u64 0)))), B 3 (.asg (.k (.c (.int .i64 0))))] [0])
  (.seq (.seq (.reg [B 8 (.mv (.t 0)), B 9 (.len (.t 8)), B 10 (.bin .lt (.t 9) (.k (.c (.int .i64 8))))] [0, 10])
  (.cond (.t 10) (.seq (.reg [B 2 (.asg (.k (.c (.int .u64 0)))), B 3 (.asg (.k (.c (.int .i64 2))))] [2, 3])
  .ret)
  .skip))
  (.seq (.reg [B 12 (.mv (.t 0)), B 13 (.call 162 [(.t 12)]), B 11 (.mv (.t 13)), B 14 (.extract 0 (.t 11)), B 15 (.extract 1 (.t 11)), B 4 (.asg (.t 14)), B 5 (.asg (.t 15))] [0, 4])
  (.seq (.reg [B 17 (.mv (.t 0)), B 18 (.slice 1 (.t 17) (some (.k (.c (.int .i64 4)))) none none), B 19 (.call 162 [(.t 18)]), B 16 (.mv (.t 19)), B 20 (.extract 0 (.t 16)), B 21 (.extract 1 (.t 16)), B 6 (.asg (.t 20)), B 7 (.asg (.t 21))] [4, 6])
  (.seq (.reg [B 22 (.mv (.t 4)), B 23 (.conv .u64 (.t 22)), B 24 (.bin .shl (.t 23) (.k (.c (.int .u64 32)))), B 25 (.mv (.t 6)), B 26 (.conv .u64 (.t 25)), B 27 (.bin .or (.t 24) (.t 26)), B 2 (.asg (.t 27)), B 3 (.asg (.k (.c (.int .i64 0))))] [2, 3])
  .ret)))))
def r161 : List ARes := [.tmp 2, .tmp 3]
theorem k161 : bChk Tryz.prog 161 Tryz.f161 1 c161 r161 = true := by kernel_rfl
theorem p161 : Tryz.prog.funcs[161]? = some Tryz.f161 := by kernel_rfl

/-- scrivener/octet.ReadShort -/
def c162 : BCode :=
  (.seq (.reg [B 2 (.asg (.k (.c (.int .u32 0)))), B 3 (.asg (.k (.c (.int .i64 0))))] [0])
  (.seq (.seq (.reg [B 4 (.mv (.t 0)), B 5 (.len (.t 4)), B 6 (.bin .lt (.t 5) (.k (.c (.int .i64 4))))] [0, 6])
  (.cond (.t 6) (.seq (.reg [B 2 (.asg (.k (.c (.int .u32 0)))), B 3 (.asg (.k (.c (.int .i64 2))))] [2, 3])
  .ret)
  .skip))
  (.seq (.regd [Oo 7 (.mv (.t 0)), Oo 8 (.iadr 1 (.t 7) (.k (.c (.int .i64 0)))), Oo 9 (.load false 1 (.t 8)), Oo 10 (.conv .u32 (.t 9)), Oo 11 (.bin .shl (.t 10) (.k (.c (.int .u64 24)))), Oo 12 (.mv (.t 0)), Oo 13 (.iadr 1 (.t 12) (.k (.c (.int .i64 1)))), Oo 14 (.load false 1 (.t 13)), Oo 15 (.conv .u32 (.t 14)), Oo 16 (.bin .shl (.t 15) (.k (.c (.int .u64 16)))), Oo 17 (.bin .or (.t 11) (.t 16)), Oo 18 (.mv (.t 0)), Oo 19 (.iadr 1 (.t 18) (.k (.c (.int .i64 2)))), Oo 20 (.load false 1 (.t 19)), Oo 21 (.conv .u32 (.t 20)), Oo 22 (.bin .shl (.t 21) (.k (.c (.int .u64 8)))), Oo 23 (.bin .or (.t 17) (.t 22)), Oo 24 (.mv (.t 0)), Oo 25 (.iadr 1 (.t 24) (.k (.c (.int .i64 3)))), Oo 26 (.load false 1 (.t 25)), Oo 27 (.conv .u32 (.t 26)), Oo 28 (.bin .or (.t 23) (.t 27)), Oo 2 (.asg (.t 28)), Oo 3 (.asg (.k (.c (.int .i64 0))))]
    (.fl 0 (.fl 1 (.fl 2 (.fl 3 (.fl 4 (.fl 5 (.fl 6 (.fl 7 (.fl 8 (.fl 9 (.fl 10 (.fl 11 (.fl 12 (.fl 13 (.fl 14 (.fl 15 (.fl 16 (.fl 17 (.fl 18 (.fl 19 (.fl 20 (.fl 21 (.ch 22 [] (.ch 23 [] .done)))))))))))))))))))))))) [2, 3])
  .ret)))
def r162 : List ARes := [.tmp 2, .tmp 3]
theorem k162 : bChk Tryz.prog 162 Tryz.f162 1 c162 r162 = true := by kernel_rfl
theorem p162 : Tryz.prog.funcs[162]? = some Tryz.f162 := by kernel_rfl

/-- bytes.Clone -/
def c163 : BCode :=
  (.seq (.reg [B 2 (.asg (.k (.c (.sl 1 [] .nil))))] [0])
  (.seq (.seq (.reg [B 3 (.mv (.t 0)), B 4 (.bin .eqnil (.t 3) (.k (.c (.sl 1 [] .nil))))] [0, 4])
  (.cond (.t 4) (.seq (.reg [B 2 (.asg (.k (.c (.sl 1 [] .nil))))] [2])
  .ret)
  .skip))
  (.seq (.reg [B 5 (.slE 1), B 6 (.mv (.t 0)), B 7 (.app 1 1 (.t 5) (.t 6)), B 2 (.asg (.t 7))] [2])
  .ret)))
def r163 : List ARes := [.tmp 2]
theorem k163 : bChk Tryz.prog 163 Tryz.f163 1 c163 r163 = true := by kernel_rfl
theorem p163 : Tryz.prog.funcs[163]? = some Tryz.f163 := by kernel_rfl

/-- scrivener/octet.ReadUvarint -/
def c164 : BCode :=
  (.seq (.reg [B 2 (.asg (.k (.c (.int .u64 0)))), B 3 (.asg (.k (.c (.int .i64 0)))), B 4 (.asg (.k (.c (.int .i64 0))))] [0])
  (.seq (.reg [B 5 (.asg (.k (.c (.int .u64 0))))] [0, 5])
  (.seq (.seq (.reg [B 8 (.mv (.t 0)), B 9 (.len (.t 8)), B 10 (.mv (.k (.c (.int .i64 0))))] [5, 8, 9, 10])
  (.block 0 (.loop (.seq (.reg [B 11 (.bin .lt (.t 10) (.t 9))] [5, 8, 9, 10, 11])
  (.seq (.cond (.t 11) .skip
  (.exit 0))
  (.seq (.block 1 (.seq (.reg [B 12 (.mv (.t 10)), B 13 (.iadr 1 (.t 8) (.t 10)), B 14 (.load false 1 (.t 13)), B 6 (.asg (.t 12)), B 7 (.asg (.t 14))] [5, 6, 7, 8, 9, 10])
  (.seq (.block 2 (.seq (.seq (.reg [B 16 (.mv (.t 6)), B 17 (.bin .eq (.t 16) (.k (.c (.int .i64 9)))), B 18 (.mv (.t 17)), Bg 19 (.mv (.t 7)) 18 true, Bg 20 (.bin .gt (.t 19) (.k (.c (.int .u8 1)))) 18 true, B 21 (.pick (.t 18) (.t 20) (.k (.c (.bool false)))), B 15 (.asg (.t 21))] [5, 6, 7, 8, 9, 10, 15])
  (.cond (.t 15) .skip
  (.reg [B 22 (.mv (.t 7)), B 23 (.bin .eq (.t 22) (.k (.c (.int .u8 0)))), B 24 (.mv (.t 23)), Bg 25 (.mv (.t 6)) 24 true, Bg 26 (.bin .gt (.t 25) (.k (.c (.int .i64 0)))) 24 true, B 27 (.pick (.t 24) (.t 26) (.k (.c (.bool false)))), B 15 (.asg (.t 27))] [5, 6, 7, 8, 9, 10, 15])))
  (.cond (.t 15) (.seq (.reg [B 2 (.asg (.k (.c (.int .u64 0)))), B 3 (.asg (.k (.c (.int .i64 0)))), B 4 (.asg (.k (.c (.int .i64 3))))] [2, 3, 4])
  .ret)
  .skip)))
  (.seq (.reg [B 28 (.mv (.t 5)), B 29 (.mv (.t 7)), B 30 (.bin .and (.t 29) (.k (.c (.int .u8 127)))), B 31 (.conv .u64 (.t 30)), B 32 (.mv (.t 6)), B 33 (.conv .u64 (.t 32)), B 34 (.bin .mul (.t 33) (.k (.c (.int .u64 7)))), B 35 (.bin .shl (.t 31) (.t 34)), B 36 (.bin .or (.t 28) (.t 35)), B 5 (.asg (.t 36))] [5, 6, 7, 8, 9, 10])
  (.seq (.reg [B 37 (.mv (.t 7)), B 38 (.bin .lt (.t 37) (.k (.c (.int .u8 128))))] [5, 6, 8, 9, 10, 38])
  (.cond (.t 38) (.seq (.reg [B 39 (.mv (.t 5)), B 40 (.mv (.t 6)), B 41 (.bin .add (.t 40) (.k (.c (.int .i64 1)))), B 2 (.asg (.t 39)), B 3 (.asg (.t 41)), B 4 (.asg (.k (.c (.int .i64 0))))] [2, 3, 4])
  .ret)
  .skip))))))
  (.reg [B 42 (.bin .add (.t 10) (.k (.c (.int .i64 1)))), B 10 (.mv (.t 42))] [5, 8, 9, 10])))))))
  (.seq (.reg [B 2 (.asg (.k (.c (.int .u64 0)))), B 3 (.asg (.k (.c (.int .i64 0)))), B 4 (.asg (.k (.c (.int .i64 2))))] [2, 3, 4])
  .ret))))
def r164 : List ARes := [.tmp 2, .tmp 3, .tmp 4]
theorem k164 : bChk Tryz.prog 164 Tryz.f164 1 c164 r164 = true := by kernel_rfl
theorem p164 : Tryz.prog.funcs[164]? = some Tryz.f164 := by kernel_rfl

/-- scrivener/codec.read -/
def c165 : BCode :=
  (.seq (.reg [B 4 (.alloc [.int .i64 0, .int .i64 0, .int .i64 0, .str [], .sl 1 [] .nil, .sl 6 [] .nil]), B 5 (.asg (.k (.c (.int .i64 0)))), B 6 (.asg (.k (.c (.int .i64 0))))] [0, 1, 4])
  (.seq (.reg [B 10 (.mv (.t 0)), B 11 (.build [.sl 1 [] .nil, .int .i64 0] [(0, 1, (.t 10))]), B 12 (.box (.t 11)), B 7 (.asg (.t 12))] [0, 1, 4, 7])
  (.seq (.reg [B 13 (.mv (.t 7)), B 14 (.call 211 [(.t 13), (.k (.c (.int .i64 1)))]), B 8 (.alloc [.int .i64 0, .int .i64 0, .int .i64 0, .str [], .sl 1 [] .nil, .sl 6 [] .nil]), Bn (.store 6 (.t 8) (.t 14))] [0, 1, 4, 7, 8])
  (.seq (.seq (.reg [B 15 (.mv (.t 7)), B 16 (.nilck (.t 15)), B 17 (.fadr 1 (.t 16)), B 18 (.load false 1 (.t 17)), B 19 (.bin .eq (.t 18) (.k (.c (.int .i64 0))))] [0, 1, 4, 7, 8, 19])
  (.cond (.t 19) (.reg [B 20 (.mv (.t 7)), B 21 (.load true 6 (.t 8)), B 22 (.call 157 [(.t 21)]), B 23 (.call 212 [(.t 20), (.t 22)])] [0, 1, 4, 7, 8])
  .skip))
  (.seq (.seq (.reg [B 24 (.mv (.t 1)), B 25 (.mv (.t 24)), Bg 26 (.mv (.t 7)) 25 true, Bg 27 (.nilck (.t 26)) 25 true, Bg 28 (.fadr 0 (.t 27)) 25 true, Bg 29 (.load false 1 (.t 28)) 25 true, Bg 30 (.len (.t 29)) 25 true, Bg 31 (.bin .gt (.t 30) (.k (.c (.int .i64 0)))) 25 true, B 32 (.pick (.t 25) (.t 31) (.k (.c (.bool false))))] [0, 4, 7, 8, 32])
  (.cond (.t 32) (.reg [B 33 (.mv (.t 7)), B 34 (.call 212 [(.t 33), (.k (.c (.int .i64 3)))])] [0, 4, 7, 8])
  .skip))
  (.seq (.reg [B 35 (.mv (.t 0)), B 36 (.len (.t 35)), B 37 (.mv (.t 7)), B 38 (.nilck (.t 37)), B 39 (.fadr 0 (.t 38)), B 40 (.load false 1 (.t 39)), B 41 (.len (.t 40)), B 42 (.bin .sub (.t 36) (.t 41)), B 9 (.asg (.t 42))] [4, 7, 8, 9])
  (.seq (.seq (.reg [B 43 (.mv (.t 9)), B 44 (.bin .gt (.t 43) (.k (.c (.int .i64 65536))))] [4, 7, 8, 9, 44])
  (.cond (.t 44) (.reg [B 45 (.mv (.t 7)), B 46 (.call 212 [(.t 45), (.k (.c (.int .i64 5)))])] [4, 7, 8, 9])
  .skip))
  (.seq (.seq (.reg [B 47 (.mv (.t 7)), B 48 (.nilck (.t 47)), B 49 (.fadr 1 (.t 48)), B 50 (.load false 1 (.t 49)), B 51 (.bin .ne (.t 50) (.k (.c (.int .i64 0))))] [4, 7, 8, 9, 51])
  (.cond (.t 51) (.seq (.regd [Oo 52 (.build [.int .i64 0, .int .i64 0, .int .i64 0, .str [], .sl 1 [] .nil, .sl 6 [] .nil] []), Oo 53 (.mv (.t 7)), Oo 54 (.nilck (.t 53)), Oo 55 (.fadr 1 (.t 54)), Oo 56 (.load false 1 (.t 55)), On (.store 6 (.t 4) (.t 52)), Oo 5 (.asg (.k (.c (.int .i64 0)))), Oo 6 (.asg (.t 56))]
    (.fl 0 (.fl 1 (.fl 2 (.fl 3 (.fl 4 (.ch 5 [4] (.ch 6 [4] (.ch 7 [] .done)))))))) [4, 5, 6])
  .ret)
  .skip))
  (.seq (.reg [B 57 (.load true 6 (.t 8)), B 58 (.mv (.t 9)), Bn (.store 6 (.t 4) (.t 57)), B 5 (.asg (.t 58)), B 6 (.asg (.k (.c (.int .i64 0))))] [4, 5, 6])
  .ret)))))))))
def r165 : List ARes := [.cell 4 true 6, .tmp 5, .tmp 6]
theorem k165 : bChk Tryz.prog 165 Tryz.f165 2 c165 r165 = true := by kernel_rfl
theorem p165 : Tryz.prog.funcs[165]? = some Tryz.f165 := by kernel_rfl

/-- scrivener/digest.Sum -/
def c166 : BCode :=
  (.seq (.reg [B 2 (.alloc [.int .u8 0, .int .u8 0, .int .u8 0, .int .u8 0, .int .u8 0, .int .u8 0, .int .u8 0, .int .u8 0, .int .u8 0, .int .u8 0, .int .u8 0, .int .u8 0, .int .u8 0, .int .u8 0, .int .u8 0, .int .u8 0, .int .u8 0, .int .u8 0, .int .u8 0, .int .u8 0, .int .u8 0, .int .u8 0, .int .u8 0, .int .u8 0, .int .u8 0, .int .u8 0, .int .u8 0, .int .u8 0, .int .u8 0, .int .u8 0, .int .u8 0, .int .u8 0])] [0, 2])
  (.seq (.reg [B 14 (.build [.int .u32 0, .int .u32 0, .int .u32 0, .int .u32 0, .int .u32 0, .int .u32 0, .int .u32 0, .int .u32 0] [(0, 1, (.k (.c (.int .u32 1779033703)))), (1, 1, (.k (.c (.int .u32 3144134277)))), (2, 1, (.k (.c (.int .u32 1013904242)))), (3, 1, (.k (.c (.int .u32 2773480762)))), (4, 1, (.k (.c (.int .u32 1359893119)))), (5, 1, (.k (.c (.int .u32 2600822924)))), (6, 1, (.k (.c (.int .u32 528734635)))), (7, 1, (.k (.c (.int .u32 1541459225))))]), B 3 (.alloc [.int .u32 0, .int .u32 0, .int .u32 0, .int .u32 0, .int .u32 0, .int .u32 0, .int .u32 0, .int .u32 0]), Bn (.store 8 (.t 3) (.t 14))] [0, 2, 3])
  (.seq (.reg [B 15 (.call 213 []), B 4 (.alloc [.int .u32 0, .int .u32 0, .int .u32 0, .int .u32 0, .int .u32 0, .int .u32 0, .int .u32 0, .int .u32 0, .int .u32 0, .int .u32 0, .int .u32 0, .int .u32 0, .int .u32 0, .int .u32 0, .int .u32 0, .int .u32 0, .int .u32 0, .int .u32 0, .int .u32 0, .int .u32 0, .int .u32 0, .int .u32 0, .int .u32 0, .int .u32 0, .int .u32 0, .int .u32 0, .int .u32 0, .int .u32 0, .int .u32 0, .int .u32 0, .int .u32 0, .int .u32 0, .int .u32 0, .int .u32 0, .int .u32 0, .int .u32 0, .int .u32 0, .int .u32 0, .int .u32 0, .int .u32 0, .int .u32 0, .int .u32 0, .int .u32 0, .int .u32 0, .int .u32 0, .int .u32 0, .int .u32 0, .int .u32 0, .int .u32 0, .int .u32 0, .int .u32 0, .int .u32 0, .int .u32 0, .int .u32 0, .int .u32 0, .int .u32 0, .int .u32 0, .int .u32 0, .int .u32 0, .int .u32 0, .int .u32 0, .int .u32 0, .int .u32 0, .int .u32 0]), Bn (.store 64 (.t 4) (.t 15))] [0, 2, 3, 4])
  (.seq (.reg [B 16 (.mv (.t 0)), B 5 (.asg (.t 16))] [0, 2, 3, 4, 5])
  (.seq (.block 0 (.loop (.seq (.seq (.reg [B 17 (.mv (.t 5)), B 18 (.len (.t 17)), B 19 (.bin .ge (.t 18) (.k (.c (.int .i64 64))))] [0, 2, 3, 4, 5, 19])
  (.cond (.t 19) .skip
  (.exit 0)))
  (.seq (.block 1 (.reg [B 22 (.mv (.t 5)), B 23 (.call 214 [(.t 3), (.t 22), (.t 4)])] [0, 2, 3, 4, 5]))
  (.reg [B 20 (.mv (.t 5)), B 21 (.slice 1 (.t 20) (some (.k (.c (.int .i64 64)))) none none), B 5 (.asg (.t 21))] [0, 2, 3, 4, 5])))))
  (.seq (.reg [B 6 (.alloc [.int .u8 0, .int .u8 0, .int .u8 0, .int .u8 0, .int .u8 0, .int .u8 0, .int .u8 0, .int .u8 0, .int .u8 0, .int .u8 0, .int .u8 0, .int .u8 0, .int .u8 0, .int .u8 0, .int .u8 0, .int .u8 0, .int .u8 0, .int .u8 0, .int .u8 0, .int .u8 0, .int .u8 0, .int .u8 0, .int .u8 0, .int .u8 0, .int .u8 0, .int .u8 0, .int .u8 0, .int .u8 0, .int .u8 0, .int .u8 0, .int .u8 0, .int .u8 0, .int .u8 0, .int .u8 0, .int .u8 0, .int .u8 0, .int .u8 0, .int .u8 0, .int .u8 0, .int .u8 0, .int .u8 0, .int .u8 0, .int .u8 0, .int .u8 0, .int .u8 0, .int .u8 0, .int .u8 0, .int .u8 0, .int .u8 0, .int .u8 0, .int .u8 0, .int .u8 0, .int .u8 0, .int .u8 0, .int .u8 0, .int .u8 0, .int .u8 0, .int .u8 0, .int .u8 0, .int .u8 0, .int .u8 0, .int .u8 0, .int .u8 0, .int .u8 0, .int .u8 0, .int .u8 0, .int .u8 0, .int .u8 0, .int .u8 0, .int .u8 0, .int .u8 0, .int .u8 0, .int .u8 0, .int .u8 0, .int .u8 0, .int .u8 0, .int .u8 0, .int .u8 0, .int .u8 0, .int .u8 0, .int .u8 0, .int .u8 0, .int .u8 0, .int .u8 0, .int .u8 0, .int .u8 0, .int .u8 0, .int .u8 0, .int .u8 0, .int .u8 0, .int .u8 0, .int .u8 0, .int .u8 0, .int .u8 0, .int .u8 0, .int .u8 0, .int .u8 0, .int .u8 0, .int .u8 0, .int .u8 0, .int .u8 0, .int .u8 0, .int .u8 0, .int .u8 0, .int .u8 0, .int .u8 0, .int .u8 0, .int .u8 0, .int .u8 0, .int .u8 0, .int .u8 0, .int .u8 0, .int .u8 0, .int .u8 0, .int .u8 0, .int .u8 0, .int .u8 0, .int .u8 0, .int .u8 0, .int .u8 0, .int .u8 0, .int .u8 0, .int .u8 0, .int .u8 0, .int .u8 0, .int .u8 0, .int .u8 0, .int .u8 0])] [0, 2, 3, 4, 5, 6])
  (.seq (.reg [B 24 (.aslice 1 128 (.t 6)), B 25 (.mv (.t 5)), B 26 (.cpy 1 (.t 24) (.t 25)), B 7 (.asg (.t 26))] [0, 2, 3, 4, 6, 7])
  (.seq (.reg [B 27 (.mv (.t 7)), B 28 (.iarr 1 128 (.t 6) (.t 27)), Bn (.store 1 (.t 28) (.k (.c (.int .u8 128))))] [0, 2, 3, 4, 6, 7])
  (.seq (.reg [B 8 (.asg (.k (.c (.int .i64 64))))] [0, 2, 3, 4, 6, 7, 8])
  (.seq (.seq (.reg [B 29 (.mv (.t 7)), B 30 (.bin .ge (.t 29) (.k (.c (.int .i64 56))))] [0, 2, 3, 4, 6, 8, 30])
  (.cond (.t 30) (.reg [B 8 (.asg (.k (.c (.int .i64 128))))] [0, 2, 3, 4, 6, 8])
  .skip))
  (.seq (.reg [B 31 (.mv (.t 0)), B 32 (.len (.t 31)), B 33 (.conv .u64 (.t 32)), B 34 (.bin .shl (.t 33) (.k (.c (.int .u64 3)))), B 9 (.asg (.t 34))] [2, 3, 4, 6, 8, 9])
  (.seq (.seq (.reg [B 35 (.mv (.k (.c (.int .i64 0))))] [2, 3, 4, 6, 8, 9, 35])
  (.block 2 (.loop (.seq (.reg [B 36 (.bin .lt (.t 35) (.k (.c (.int .i64 8))))] [2, 3, 4, 6, 8, 9, 35, 36])
  (.seq (.cond (.t 36) .skip
  (.exit 2))
  (.seq (.block 3 (.seq (.reg [B 37 (.mv (.t 35)), B 10 (.asg (.t 37))] [2, 3, 4, 6, 8, 9, 10, 35])
  (.reg [B 38 (.mv (.t 8)), B 39 (.bin .sub (.t 38) (.k (.c (.int .i64 1)))), B 40 (.mv (.t 10)), B 41 (.bin .sub (.t 39) (.t 40)), B 42 (.mv (.t 9)), B 43 (.mv (.t 10)), B 44 (.bin .mul (.k (.c (.int .i64 8))) (.t 43)), B 45 (.bin .shr (.t 42) (.t 44)), B 46 (.conv .u8 (.t 45)), B 47 (.iarr 1 128 (.t 6) (.t 41)), Bn (.store 1 (.t 47) (.t 46))] [2, 3, 4, 6, 8, 9, 35])))
  (.reg [B 48 (.bin .add (.t 35) (.k (.c (.int .i64 1)))), B 35 (.mv (.t 48))] [2, 3, 4, 6, 8, 9, 35])))))))
  (.seq (.seq (.reg [B 11 (.asg (.k (.c (.int .i64 0))))] [2, 3, 4, 6, 8, 11])
  (.block 4 (.loop (.seq (.seq (.reg [B 49 (.mv (.t 11)), B 50 (.mv (.t 8)), B 51 (.bin .lt (.t 49) (.t 50))] [2, 3, 4, 6, 8, 11, 51])
  (.cond (.t 51) .skip
  (.exit 4)))
  (.seq (.block 5 (.reg [B 54 (.mv (.t 11)), B 55 (.aslc 1 128 (.t 6) (some (.t 54)) none), B 56 (.call 214 [(.t 3), (.t 55), (.t 4)])] [2, 3, 4, 6, 8, 11]))
  (.reg [B 52 (.mv (.t 11)), B 53 (.bin .add (.t 52) (.k (.c (.int .i64 64)))), B 11 (.asg (.t 53))] [2, 3, 4, 6, 8, 11]))))))
  (.seq (.seq (.reg [B 57 (.load true 8 (.t 3)), B 58 (.mv (.k (.c (.int .i64 0))))] [2, 57, 58])
  (.block 6 (.loop (.seq (.reg [B 59 (.bin .lt (.t 58) (.k (.c (.int .i64 8))))] [2, 57, 58, 59])
  (.seq (.cond (.t 59) .skip
  (.exit 6))
  (.seq (.block 7 (.seq (.reg [B 60 (.mv (.t 58)), B 61 (.idx false 8 1 (.t 57) (.t 58)), B 12 (.asg (.t 60)), B 13 (.asg (.t 61))] [2, 12, 13, 57, 58])
  (.reg [B 62 (.mv (.t 12)), B 63 (.bin .mul (.k (.c (.int .i64 4))) (.t 62)), B 64 (.mv (.t 12)), B 65 (.bin .mul (.k (.c (.int .i64 4))) (.t 64)), B 66 (.bin .add (.t 65) (.k (.c (.int .i64 1)))), B 67 (.mv (.t 12)), B 68 (.bin .mul (.k (.c (.int .i64 4))) (.t 67)), B 69 (.bin .add (.t 68) (.k (.c (.int .i64 2)))), B 70 (.mv (.t 12)), B 71 (.bin .mul (.k (.c (.int .i64 4))) (.t 70)), B 72 (.bin .add (.t 71) (.k (.c (.int .i64 3)))), B 73 (.mv (.t 13)), B 74 (.bin .shr (.t 73) (.k (.c (.int .u64 24)))), B 75 (.conv .u8 (.t 74)), B 76 (.mv (.t 13)), B 77 (.bin .shr (.t 76) (.k (.c (.int .u64 16)))), B 78 (.conv .u8 (.t 77)), B 79 (.mv (.t 13)), B 80 (.bin .shr (.t 79) (.k (.c (.int .u64 8)))), B 81 (.conv .u8 (.t 80)), B 82 (.mv (.t 13)), B 83 (.conv .u8 (.t 82)), B 84 (.iarr 1 32 (.t 2) (.t 63)), Bn (.store 1 (.t 84) (.t 75)), B 85 (.iarr 1 32 (.t 2) (.t 66)), Bn (.store 1 (.t 85) (.t 78)), B 86 (.iarr 1 32 (.t 2) (.t 69)), Bn (.store 1 (.t 86) (.t 81)), B 87 (.iarr 1 32 (.t 2) (.t 72)), Bn (.store 1 (.t 87) (.t 83))] [2, 57, 58])))
  (.reg [B 88 (.bin .add (.t 58) (.k (.c (.int .i64 1)))), B 58 (.mv (.t 88))] [2, 57, 58])))))))
  (.seq (.reg [B 89 (.load true 32 (.t 2)), Bn (.store 32 (.t 2) (.t 89))] [2])
  .ret)))))))))))))))
def r166 : List ARes := [.cell 2 true 32]
theorem k166 : bChk Tryz.prog 166 Tryz.f166 1 c166 r166 = true := by kernel_rfl
theorem p166 : Tryz.prog.funcs[166]? = some Tryz.f166 := by kernel_rfl

/-- (*scrivener/client.Client).decided -/
def c167 : BCode :=
  (.seq (.reg [B 3 (.boxR (.t 1)), B 4 (.asg (.k (.c (.sl 3 [] .nil))))] [0, 3])
  (.seq (.block 0 (.seq (.reg [B 6 (.fadr 1 (.t 3)), B 7 (.load false 1 (.t 6)), B 8 (.bin .eq (.t 7) (.k (.c (.int .i64 14)))), B 9 (.mv (.t 8)), Bg 10 (.fadr 1 (.t 3)) 9 false, Bg 11 (.load false 1 (.t 10)) 9 false, Bg 12 (.bin .eq (.t 11) (.k (.c (.int .i64 16)))) 9 false, B 13 (.pick (.t 9) (.k (.c (.bool true))) (.t 12)), B 5 (.asg (.t 13))] [0, 3, 5])
  (.cond (.t 5) (.seq (.reg [B 14 (.mv (.t 0)), B 15 (.fadr 1 (.t 3)), B 16 (.load false 1 (.t 15)), B 17 (.call 215 [(.t 14), (.t 16)]), B 4 (.asg (.t 17))] [4])
  .ret)
  (.seq (.reg [B 19 (.fadr 1 (.t 3)), B 20 (.load false 1 (.t 19)), B 21 (.bin .eq (.t 20) (.k (.c (.int .i64 7)))), B 22 (.mv (.t 21)), Bg 23 (.fadr 1 (.t 3)) 22 false, Bg 24 (.load false 1 (.t 23)) 22 false, Bg 25 (.bin .eq (.t 24) (.k (.c (.int .i64 20)))) 22 false, B 26 (.pick (.t 22) (.k (.c (.bool true))) (.t 25)), B 18 (.asg (.t 26))] [0, 3, 18])
  (.cond (.t 18) (.seq (.reg [B 27 (.mv (.t 0)), B 28 (.nilck (.t 27)), B 29 (.fadr 4 (.t 28)), Bn (.store 1 (.t 29) (.k (.c (.bool false))))] [0])
  (.seq (.reg [B 30 (.mv (.t 0)), B 31 (.call 111 [(.t 30), (.k (.c (.int .i64 21)))]), B 4 (.asg (.t 31))] [4])
  .ret))
  (.seq (.reg [B 33 (.fadr 1 (.t 3)), B 34 (.load false 1 (.t 33)), B 35 (.bin .ne (.t 34) (.k (.c (.int .i64 0)))), B 32 (.asg (.t 35))] [0, 3, 32])
  (.cond (.t 32) (.seq (.reg [B 36 (.mv (.t 0)), B 37 (.fadr 1 (.t 3)), B 38 (.load false 1 (.t 37)), B 39 (.call 111 [(.t 36), (.t 38)]), B 4 (.asg (.t 39))] [4])
  .ret)
  (.seq (.reg [B 41 (.fadr 2 (.t 3)), B 42 (.load false 1 (.t 41)), B 43 (.len (.t 42)), B 44 (.bin .ne (.t 43) (.k (.c (.int .i64 2)))), B 40 (.asg (.t 44))] [0, 3, 40])
  (.cond (.t 40) (.seq (.reg [B 45 (.mv (.t 0)), B 46 (.call 111 [(.t 45), (.k (.c (.int .i64 19)))]), B 4 (.asg (.t 46))] [4])
  .ret)
  .skip)))))))))
  (.seq (.regd [Oo 47 (.mv (.t 0)), Oo 48 (.nilck (.t 47)), Oo 49 (.fadr 7 (.t 48)), Oo 50 (.load false 1 (.t 49)), Oo 51 (.mv (.t 0)), Oo 52 (.nilck (.t 51)), Oo 53 (.fadr 7 (.t 52)), Oo 54 (.load false 1 (.t 53)), Oo 55 (.fadr 2 (.t 3)), Oo 56 (.load false 1 (.t 55)), Oo 57 (.iadr 1 (.t 56) (.k (.c (.int .i64 0)))), Oo 58 (.load false 1 (.t 57)), Oo 59 (.nilck (.t 50)), Oo 60 (.fadr 37 (.t 59)), On (.store 1 (.t 60) (.k (.c (.bool true)))), Oo 61 (.nilck (.t 54)), Oo 62 (.fadr 38 (.t 61)), On (.store 1 (.t 62) (.t 58))]
    (.fl 0 (.fl 1 (.fl 2 (.fl 3 (.fl 4 (.fl 5 (.fl 6 (.fl 7 (.fl 8 (.fl 9 (.fl 10 (.fl 11 (.fl 12 (.fl 13 (.ch 14 [] (.fl 15 (.fl 16 (.ch 17 [] .done)))))))))))))))))) [0])
  (.seq (.reg [B 63 (.mv (.t 0)), B 64 (.slR 1 1 [.int .i64 0] [(0, 1, (.k (.c (.int .i64 (-1)))))]), B 65 (.build [.int .i64 0, .int .i64 0, .sl 1 [] .nil, .str [], .sl 6 [] .nil, .int .u8 0, .int .u8 0, .int .u8 0, .int .u8 0, .int .u8 0, .int .u8 0, .int .u8 0, .int .u8 0, .int .u8 0, .int .u8 0, .int .u8 0, .int .u8 0, .int .u8 0, .int .u8 0, .int .u8 0, .int .u8 0, .int .u8 0, .int .u8 0, .int .u8 0, .int .u8 0, .int .u8 0, .int .u8 0, .int .u8 0, .int .u8 0, .int .u8 0, .int .u8 0, .int .u8 0, .int .u8 0, .int .u8 0, .int .u8 0, .int .u8 0, .int .u8 0] [(0, 1, (.k (.c (.int .i64 8)))), (2, 1, (.t 64))]), B 66 (.mv (.t 0)), B 67 (.mkbfn 216 [(.t 66)]), B 68 (.call 68 [(.t 63), (.t 65), (.t 67)]), B 4 (.asg (.t 68))] [4])
  .ret))))
def r167 : List ARes := [.tmp 4]
theorem k167 : bChk Tryz.prog 167 Tryz.f167 2 c167 r167 = true := by kernel_rfl
theorem p167 : Tryz.prog.funcs[167]? = some Tryz.f167 := by kernel_rfl

/-- (*scrivener/client.Client).ran -/
def c168 : BCode :=
  (.seq (.reg [B 3 (.boxR (.t 1)), B 4 (.asg (.k (.c (.sl 3 [] .nil))))] [0, 3])
  (.seq (.reg [B 7 (.mv (.t 0)), B 8 (.nilck (.t 7)), B 9 (.fadr 7 (.t 8)), B 10 (.load false 1 (.t 9)), B 5 (.asg (.t 10))] [0, 3, 5])
  (.seq (.seq (.reg [B 11 (.fadr 1 (.t 3)), B 12 (.load false 1 (.t 11))] [0, 3, 5, 12])
  (.block 0 (.seq (.reg [B 33 (.bin .eq (.t 12) (.k (.c (.int .i64 0)))), B 32 (.asg (.t 33))] [0, 3, 5, 12, 32])
  (.cond (.t 32) .skip
  (.seq (.seq (.reg [B 35 (.bin .eq (.t 12) (.k (.c (.int .i64 7)))), B 34 (.asg (.t 35))] [0, 3, 5, 12, 34])
  (.cond (.t 34) .skip
  (.reg [B 36 (.bin .eq (.t 12) (.k (.c (.int .i64 16)))), B 34 (.asg (.t 36))] [0, 3, 5, 34])))
  (.cond (.t 34) (.seq (.reg [B 37 (.mv (.t 0)), B 38 (.fadr 1 (.t 3)), B 39 (.load false 1 (.t 38)), B 40 (.call 215 [(.t 37), (.t 39)]), B 4 (.asg (.t 40))] [4])
  .ret)
  (.seq (.reg [B 13 (.mv (.t 5)), B 14 (.fadr 1 (.t 3)), B 15 (.load false 1 (.t 14)), B 16 (.nilck (.t 13)), B 17 (.fadr 72 (.t 16)), Bn (.store 1 (.t 17) (.t 15))] [0, 5])
  (.seq (.regd [Oo 18 (.mv (.t 0)), Oo 19 (.mv (.t 0)), Oo 20 (.nilck (.t 19)), Oo 21 (.fadr 3 (.t 20)), Oo 22 (.load false 1 (.t 21)), Oo 23 (.mv (.t 5)), Oo 24 (.nilck (.t 23)), Oo 25 (.fadr 3 (.t 24)), Oo 26 (.load false 1 (.t 25)), Oo 27 (.slR 1 2 [.int .i64 0, .int .i64 0] [(0, 1, (.t 22)), (1, 1, (.t 26))]), Oo 28 (.build [.int .i64 0, .int .i64 0, .sl 1 [] .nil, .str [], .sl 6 [] .nil, .int .u8 0, .int .u8 0, .int .u8 0, .int .u8 0, .int .u8 0, .int .u8 0, .int .u8 0, .int .u8 0, .int .u8 0, .int .u8 0, .int .u8 0, .int .u8 0, .int .u8 0, .int .u8 0, .int .u8 0, .int .u8 0, .int .u8 0, .int .u8 0, .int .u8 0, .int .u8 0, .int .u8 0, .int .u8 0, .int .u8 0, .int .u8 0, .int .u8 0, .int .u8 0, .int .u8 0, .int .u8 0, .int .u8 0, .int .u8 0, .int .u8 0, .int .u8 0] [(0, 1, (.k (.c (.int .i64 6)))), (2, 1, (.t 27))]), Oo 29 (.mv (.t 0)), Oo 30 (.mkbfn 217 [(.t 29)]), Oo 31 (.call 68 [(.t 18), (.t 28), (.t 30)]), Oo 4 (.asg (.t 31))]
    (.fl 0 (.fl 1 (.fl 2 (.fl 3 (.fl 4 (.fl 5 (.fl 6 (.fl 7 (.fl 8 (.fl 9 (.fl 10 (.fl 11 (.fl 12 (.ch 13 [] (.ch 14 [] .done))))))))))))))) [4])
  .ret))))))))
  (.seq (.regd [Oo 41 (.mv (.t 5)), Oo 42 (.nilck (.t 41)), Oo 43 (.fadr 1 (.t 42)), Oo 44 (.load false 1 (.t 43)), Oo 45 (.mv (.t 5)), Oo 46 (.nilck (.t 45)), Oo 47 (.fadr 36 (.t 46)), Oo 48 (.load false 1 (.t 47)), Oo 49 (.len (.t 48)), Oo 50 (.iadr 2 (.t 44) (.t 49)), Oo 51 (.load true 2 (.t 50)), Oo 6 (.alloc [.str [], .sl 6 [] .nil]), On (.store 2 (.t 6) (.t 51))]
    (.fl 0 (.fl 1 (.fl 2 (.fl 3 (.fl 4 (.fl 5 (.fl 6 (.fl 7 (.fl 8 (.fl 9 (.fl 10 (.ch 11 [3, 7, 8, 9, 10] (.ch 12 [] .done))))))))))))) [0, 3, 5, 6])
  (.seq (.regd [Oo 53 (.mv (.t 5)), Oo 54 (.mv (.t 5)), Oo 55 (.nilck (.t 54)), Oo 56 (.fadr 4 (.t 55)), Oo 57 (.load true 32 (.t 56)), Oo 58 (.fadr 0 (.t 6)), Oo 59 (.load false 1 (.t 58)), Oo 60 (.fadr 1 (.t 6)), Oo 61 (.load false 1 (.t 60)), Oo 62 (.call 218 [(.t 57), (.t 59), (.t 61)]), Oo 52 (.mv (.t 62)), Oo 63 (.extract 0 (.t 52)), Oo 64 (.extract 1 (.t 52)), Oo 65 (.nilck (.t 53)), Oo 66 (.fadr 4 (.t 65)), On (.store 32 (.t 66) (.t 63))]
    (.fl 0 (.fl 1 (.fl 2 (.fl 3 (.fl 4 (.fl 5 (.fl 6 (.fl 7 (.fl 8 (.ch 9 [] (.fl 10 (.fl 11 (.fl 12 (.fl 13 (.fl 14 (.ch 15 [] .done)))))))))))))))) [0, 3, 5])
  (.seq (.regd [Oo 67 (.mv (.t 5)), Oo 68 (.mv (.t 5)), Oo 69 (.nilck (.t 68)), Oo 70 (.fadr 36 (.t 69)), Oo 71 (.load false 1 (.t 70)), Oo 72 (.fadr 3 (.t 3)), Oo 73 (.load false 1 (.t 72)), Oo 74 (.slR 1 1 [.sl 6 [] .nil] [(0, 1, (.t 73))]), Oo 75 (.app 1 24 (.t 71) (.t 74)), Oo 76 (.nilck (.t 67)), Oo 77 (.fadr 36 (.t 76)), On (.store 1 (.t 77) (.t 75))]
    (.fl 0 (.fl 1 (.fl 2 (.fl 3 (.fl 4 (.fl 5 (.fl 6 (.fl 7 (.ch 8 [] (.fl 9 (.fl 10 (.ch 11 [] .done)))))))))))) [0])
  (.seq (.reg [B 78 (.mv (.t 0)), B 79 (.call 113 [(.t 78)]), B 4 (.asg (.t 79))] [4])
  .ret)))))))
def r168 : List ARes := [.tmp 4]
theorem k168 : bChk Tryz.prog 168 Tryz.f168 2 c168 r168 = true := by kernel_rfl
theorem p168 : Tryz.prog.funcs[168]? = some Tryz.f168 := by kernel_rfl

/-- (*scrivener/scrivenerref7.reader).one -/
def c169 : BCode :=
  (.seq (.reg [B 2 (.asg (.k (.c (.int .u8 0))))] [0])
  (.seq (.seq (.reg [B 4 (.mv (.t 0)), B 5 (.nilck (.t 4)), B 6 (.fadr 1 (.t 5)), B 7 (.load false 1 (.t 6)), B 8 (.bin .eq (.t 7) (.k (.c (.int .i64 0)))), B 9 (.mv (.t 8)), Bg 10 (.mv (.t 0)) 9 true, Bg 11 (.nilck (.t 10)) 9 true, Bg 12 (.fadr 0 (.t 11)) 9 true, Bg 13 (.load false 1 (.t 12)) 9 true, Bg 14 (.len (.t 13)) 9 true, Bg 15 (.bin .eq (.t 14) (.k (.c (.int .i64 0)))) 9 true, B 16 (.pick (.t 9) (.t 15) (.k (.c (.bool false))))] [0, 16])
  (.cond (.t 16) (.reg [B 17 (.mv (.t 0)), B 18 (.nilck (.t 17)), B 19 (.fadr 1 (.t 18)), Bn (.store 1 (.t 19) (.k (.c (.int .i64 2))))] [0])
  .skip))
  (.seq (.seq (.reg [B 20 (.mv (.t 0)), B 21 (.nilck (.t 20)), B 22 (.fadr 1 (.t 21)), B 23 (.load false 1 (.t 22)), B 24 (.bin .ne (.t 23) (.k (.c (.int .i64 0))))] [0, 24])
  (.cond (.t 24) (.seq (.reg [B 2 (.asg (.k (.c (.int .u8 0))))] [2])
  .ret)
  .skip))
  (.seq (.reg [B 25 (.mv (.t 0)), B 26 (.nilck (.t 25)), B 27 (.fadr 0 (.t 26)), B 28 (.load false 1 (.t 27)), B 29 (.iadr 1 (.t 28) (.k (.c (.int .i64 0)))), B 30 (.load false 1 (.t 29)), B 3 (.asg (.t 30))] [0, 3])
  (.seq (.reg [B 31 (.mv (.t 0)), B 32 (.mv (.t 0)), B 33 (.nilck (.t 32)), B 34 (.fadr 0 (.t 33)), B 35 (.load false 1 (.t 34)), B 36 (.slice 1 (.t 35) (some (.k (.c (.int .i64 1)))) none none), B 37 (.nilck (.t 31)), B 38 (.fadr 0 (.t 37)), Bn (.store 1 (.t 38) (.t 36))] [3])
  (.seq (.reg [B 39 (.mv (.t 3)), B 2 (.asg (.t 39))] [2])
  .ret))))))
def r169 : List ARes := [.tmp 2]
theorem k169 : bChk Tryz.prog 169 Tryz.f169 1 c169 r169 = true := by kernel_rfl
theorem p169 : Tryz.prog.funcs[169]? = some Tryz.f169 := by kernel_rfl

/-- (*scrivener/scrivenerref7.reader).number -/
def c170 : BCode :=
  (.seq (.reg [B 2 (.asg (.k (.c (.int .u64 0))))] [0])
  (.seq (.seq (.reg [B 6 (.mv (.t 0)), B 7 (.nilck (.t 6)), B 8 (.fadr 1 (.t 7)), B 9 (.load false 1 (.t 8)), B 10 (.bin .ne (.t 9) (.k (.c (.int .i64 0))))] [0, 10])
  (.cond (.t 10) (.seq (.reg [B 2 (.asg (.k (.c (.int .u64 0))))] [2])
  .ret)
  .skip))
  (.seq (.reg [B 12 (.mv (.t 0)), B 13 (.nilck (.t 12)), B 14 (.fadr 0 (.t 13)), B 15 (.load false 1 (.t 14)), B 16 (.call 115 [(.t 15)]), B 11 (.mv (.t 16)), B 17 (.extract 0 (.t 11)), B 18 (.extract 1 (.t 11)), B 19 (.extract 2 (.t 11)), B 3 (.asg (.t 17)), B 4 (.asg (.t 18)), B 5 (.asg (.t 19))] [0, 3, 4, 5])
  (.seq (.seq (.reg [B 20 (.mv (.t 5)), B 21 (.bin .ne (.t 20) (.k (.c (.int .i64 0))))] [0, 3, 4, 5, 21])
  (.cond (.t 21) (.seq (.reg [B 22 (.mv (.t 0)), B 23 (.mv (.t 5)), B 24 (.nilck (.t 22)), B 25 (.fadr 1 (.t 24)), Bn (.store 1 (.t 25) (.t 23))] [])
  (.seq (.reg [B 2 (.asg (.k (.c (.int .u64 0))))] [2])
  .ret))
  .skip))
  (.seq (.reg [B 26 (.mv (.t 0)), B 27 (.mv (.t 0)), B 28 (.nilck (.t 27)), B 29 (.fadr 0 (.t 28)), B 30 (.load false 1 (.t 29)), B 31 (.mv (.t 4)), B 32 (.slice 1 (.t 30) (some (.t 31)) none none), B 33 (.nilck (.t 26)), B 34 (.fadr 0 (.t 33)), Bn (.store 1 (.t 34) (.t 32))] [3])
  (.seq (.reg [B 35 (.mv (.t 3)), B 2 (.asg (.t 35))] [2])
  .ret))))))
def r170 : List ARes := [.tmp 2]
theorem k170 : bChk Tryz.prog 170 Tryz.f170 1 c170 r170 = true := by kernel_rfl
theorem p170 : Tryz.prog.funcs[170]? = some Tryz.f170 := by kernel_rfl

/-- (*scrivener/scrivenerref7.reader).text -/
def c171 : BCode :=
  (.seq (.reg [B 2 (.asg (.k (.c (.str []))))] [0])
  (.seq (.reg [B 5 (.mv (.t 0)), B 6 (.call 172 [(.t 5)]), B 3 (.asg (.t 6))] [0, 3])
  (.seq (.seq (.reg [B 7 (.mv (.t 0)), B 8 (.nilck (.t 7)), B 9 (.fadr 1 (.t 8)), B 10 (.load false 1 (.t 9)), B 11 (.bin .eq (.t 10) (.k (.c (.int .i64 0)))), B 12 (.mv (.t 11)), Bg 13 (.mv (.t 0)) 12 true, Bg 14 (.nilck (.t 13)) 12 true, Bg 15 (.fadr 0 (.t 14)) 12 true, Bg 16 (.load false 1 (.t 15)) 12 true, Bg 17 (.len (.t 16)) 12 true, Bg 18 (.mv (.t 3)) 12 true, Bg 19 (.bin .lt (.t 17) (.t 18)) 12 true, B 20 (.pick (.t 12) (.t 19) (.k (.c (.bool false))))] [0, 3, 20])
  (.cond (.t 20) (.reg [B 21 (.mv (.t 0)), B 22 (.nilck (.t 21)), B 23 (.fadr 1 (.t 22)), Bn (.store 1 (.t 23) (.k (.c (.int .i64 2))))] [0, 3])
  .skip))
  (.seq (.seq (.reg [B 24 (.mv (.t 0)), B 25 (.nilck (.t 24)), B 26 (.fadr 1 (.t 25)), B 27 (.load false 1 (.t 26)), B 28 (.bin .ne (.t 27) (.k (.c (.int .i64 0))))] [0, 3, 28])
  (.cond (.t 28) (.seq (.reg [B 2 (.asg (.k (.c (.str []))))] [2])
  .ret)
  .skip))
  (.seq (.reg [B 29 (.mv (.t 0)), B 30 (.nilck (.t 29)), B 31 (.fadr 0 (.t 30)), B 32 (.load false 1 (.t 31)), B 33 (.mv (.t 3)), B 34 (.slice 1 (.t 32) none (some (.t 33)) none), B 35 (.bytess (.t 34)), B 4 (.asg (.t 35))] [0, 3, 4])
  (.seq (.reg [B 36 (.mv (.t 0)), B 37 (.mv (.t 0)), B 38 (.nilck (.t 37)), B 39 (.fadr 0 (.t 38)), B 40 (.load false 1 (.t 39)), B 41 (.mv (.t 3)), B 42 (.slice 1 (.t 40) (some (.t 41)) none none), B 43 (.nilck (.t 36)), B 44 (.fadr 0 (.t 43)), Bn (.store 1 (.t 44) (.t 42))] [4])
  (.seq (.reg [B 45 (.mv (.t 4)), B 2 (.asg (.t 45))] [2])
  .ret)))))))
def r171 : List ARes := [.tmp 2]
theorem k171 : bChk Tryz.prog 171 Tryz.f171 1 c171 r171 = true := by kernel_rfl
theorem p171 : Tryz.prog.funcs[171]? = some Tryz.f171 := by kernel_rfl

/-- (*scrivener/scrivenerref7.reader).count -/
def c172 : BCode :=
  (.seq (.reg [B 2 (.asg (.k (.c (.int .i64 0))))] [0])
  (.seq (.reg [B 4 (.mv (.t 0)), B 5 (.call 170 [(.t 4)]), B 3 (.asg (.t 5))] [0, 3])
  (.seq (.seq (.reg [B 6 (.mv (.t 0)), B 7 (.nilck (.t 6)), B 8 (.fadr 1 (.t 7)), B 9 (.load false 1 (.t 8)), B 10 (.bin .eq (.t 9) (.k (.c (.int .i64 0)))), B 11 (.mv (.t 10)), Bg 12 (.mv (.t 3)) 11 true, Bg 13 (.bin .gt (.t 12) (.k (.c (.int .u64 65536)))) 11 true, B 14 (.pick (.t 11) (.t 13) (.k (.c (.bool false))))] [0, 3, 14])
  (.cond (.t 14) (.reg [B 15 (.mv (.t 0)), B 16 (.nilck (.t 15)), B 17 (.fadr 1 (.t 16)), Bn (.store 1 (.t 17) (.k (.c (.int .i64 3))))] [0, 3])
  .skip))
  (.seq (.seq (.reg [B 18 (.mv (.t 0)), B 19 (.nilck (.t 18)), B 20 (.fadr 1 (.t 19)), B 21 (.load false 1 (.t 20)), B 22 (.bin .ne (.t 21) (.k (.c (.int .i64 0))))] [3, 22])
  (.cond (.t 22) (.seq (.reg [B 2 (.asg (.k (.c (.int .i64 0))))] [2])
  .ret)
  .skip))
  (.seq (.reg [B 23 (.mv (.t 3)), B 24 (.conv .i64 (.t 23)), B 2 (.asg (.t 24))] [2])
  .ret)))))
def r172 : List ARes := [.tmp 2]
theorem k172 : bChk Tryz.prog 172 Tryz.f172 1 c172 r172 = true := by kernel_rfl
theorem p172 : Tryz.prog.funcs[172]? = some Tryz.f172 := by kernel_rfl

/-- scrivener/scrivenerref2.Sum -/
def c173 : BCode :=
  (.seq (.reg [B 2 (.alloc [.int .u8 0, .int .u8 0, .int .u8 0, .int .u8 0, .int .u8 0, .int .u8 0, .int .u8 0, .int .u8 0, .int .u8 0, .int .u8 0, .int .u8 0, .int .u8 0, .int .u8 0, .int .u8 0, .int .u8 0, .int .u8 0, .int .u8 0, .int .u8 0, .int .u8 0, .int .u8 0, .int .u8 0, .int .u8 0, .int .u8 0, .int .u8 0, .int .u8 0, .int .u8 0, .int .u8 0, .int .u8 0, .int .u8 0, .int .u8 0, .int .u8 0, .int .u8 0])] [0, 2])
  (.seq (.reg [B 11 (.slE 1), B 12 (.mv (.t 0)), B 13 (.app 1 1 (.t 11) (.t 12)), B 14 (.slR 1 1 [.int .u8 0] [(0, 1, (.k (.c (.int .u8 128))))]), B 15 (.app 1 1 (.t 13) (.t 14)), B 3 (.asg (.t 15))] [0, 2, 3])
  (.seq (.block 0 (.loop (.seq (.seq (.reg [B 16 (.mv (.t 3)), B 17 (.len (.t 16)), B 18 (.bin .rem (.t 17) (.k (.c (.int .i64 64)))), B 19 (.bin .ne (.t 18) (.k (.c (.int .i64 56))))] [0, 2, 3, 19])
  (.cond (.t 19) .skip
  (.exit 0)))
  (.block 1 (.reg [B 20 (.mv (.t 3)), B 21 (.slR 1 1 [.int .u8 0] [(0, 1, (.k (.c (.int .u8 0))))]), B 22 (.app 1 1 (.t 20) (.t 21)), B 3 (.asg (.t 22))] [0, 2, 3])))))
  (.seq (.reg [B 23 (.mv (.t 0)), B 24 (.len (.t 23)), B 25 (.conv .u64 (.t 24)), B 26 (.bin .mul (.t 25) (.k (.c (.int .u64 8)))), B 4 (.asg (.t 26))] [2, 3, 4])
  (.seq (.seq (.reg [B 5 (.asg (.k (.c (.int .i64 7))))] [2, 3, 4, 5])
  (.block 2 (.loop (.seq (.seq (.reg [B 27 (.mv (.t 5)), B 28 (.bin .ge (.t 27) (.k (.c (.int .i64 0))))] [2, 3, 4, 5, 28])
  (.cond (.t 28) .skip
  (.exit 2)))
  (.seq (.block 3 (.reg [B 31 (.mv (.t 3)), B 32 (.mv (.t 4)), B 33 (.mv (.t 5)), B 34 (.bin .mul (.k (.c (.int .i64 8))) (.t 33)), B 35 (.conv .u64 (.t 34)), B 36 (.bin .shr (.t 32) (.t 35)), B 37 (.conv .u8 (.t 36)), B 38 (.slR 1 1 [.int .u8 0] [(0, 1, (.t 37))]), B 39 (.app 1 1 (.t 31) (.t 38)), B 3 (.asg (.t 39))] [2, 3, 4, 5]))
  (.reg [B 29 (.mv (.t 5)), B 30 (.bin .sub (.t 29) (.k (.c (.int .i64 1)))), B 5 (.asg (.t 30))] [2, 3, 4, 5]))))))
  (.seq (.reg [B 40 (.build [.int .u32 0, .int .u32 0, .int .u32 0, .int .u32 0, .int .u32 0, .int .u32 0, .int .u32 0, .int .u32 0] [(0, 1, (.k (.c (.int .u32 1779033703)))), (1, 1, (.k (.c (.int .u32 3144134277)))), (2, 1, (.k (.c (.int .u32 1013904242)))), (3, 1, (.k (.c (.int .u32 2773480762)))), (4, 1, (.k (.c (.int .u32 1359893119)))), (5, 1, (.k (.c (.int .u32 2600822924)))), (6, 1, (.k (.c (.int .u32 528734635)))), (7, 1, (.k (.c (.int .u32 1541459225))))]), B 6 (.alloc [.int .u32 0, .int .u32 0, .int .u32 0, .int .u32 0, .int .u32 0, .int .u32 0, .int .u32 0, .int .u32 0]), Bn (.store 8 (.t 6) (.t 40))] [2, 3, 6])
  (.seq (.reg [B 41 (.call 219 []), B 7 (.alloc [.int .u32 0, .int .u32 0, .int .u32 0, .int .u32 0, .int .u32 0, .int .u32 0, .int .u32 0, .int .u32 0, .int .u32 0, .int .u32 0, .int .u32 0, .int .u32 0, .int .u32 0, .int .u32 0, .int .u32 0, .int .u32 0, .int .u32 0, .int .u32 0, .int .u32 0, .int .u32 0, .int .u32 0, .int .u32 0, .int .u32 0, .int .u32 0, .int .u32 0, .int .u32 0, .int .u32 0, .int .u32 0, .int .u32 0, .int .u32 0, .int .u32 0, .int .u32 0, .int .u32 0, .int .u32 0, .int .u32 0, .int .u32 0, .int .u32 0, .int .u32 0, .int .u32 0, .int .u32 0, .int .u32 0, .int .u32 0, .int .u32 0, .int .u32 0, .int .u32 0, .int .u32 0, .int .u32 0, .int .u32 0, .int .u32 0, .int .u32 0, .int .u32 0, .int .u32 0, .int .u32 0, .int .u32 0, .int .u32 0, .int .u32 0, .int .u32 0, .int .u32 0, .int .u32 0, .int .u32 0, .int .u32 0, .int .u32 0, .int .u32 0, .int .u32 0]), Bn (.store 64 (.t 7) (.t 41))] [2, 3, 6, 7])
  (.seq (.seq (.reg [B 8 (.asg (.k (.c (.int .i64 0))))] [2, 3, 6, 7, 8])
  (.block 4 (.loop (.seq (.seq (.reg [B 42 (.mv (.t 8)), B 43 (.mv (.t 3)), B 44 (.len (.t 43)), B 45 (.bin .lt (.t 42) (.t 44))] [2, 3, 6, 7, 8, 45])
  (.cond (.t 45) .skip
  (.exit 4)))
  (.seq (.block 5 (.regd [Oo 48 (.load true 8 (.t 6)), Oo 49 (.mv (.t 3)), Oo 50 (.mv (.t 8)), Oo 51 (.mv (.t 8)), Oo 52 (.bin .add (.t 51) (.k (.c (.int .i64 64)))), Oo 53 (.slice 1 (.t 49) (some (.t 50)) (some (.t 52)) none), Oo 54 (.call 220 [(.t 48), (.t 53), (.t 7)]), On (.store 8 (.t 6) (.t 54))]
    (.fl 0 (.fl 1 (.fl 2 (.fl 3 (.fl 4 (.fl 5 (.ch 6 [] (.ch 7 [] .done)))))))) [2, 3, 6, 7, 8]))
  (.reg [B 46 (.mv (.t 8)), B 47 (.bin .add (.t 46) (.k (.c (.int .i64 64)))), B 8 (.asg (.t 47))] [2, 3, 6, 7, 8]))))))
  (.seq (.reg [B 9 (.alloc [.int .u8 0, .int .u8 0, .int .u8 0, .int .u8 0, .int .u8 0, .int .u8 0, .int .u8 0, .int .u8 0, .int .u8 0, .int .u8 0, .int .u8 0, .int .u8 0, .int .u8 0, .int .u8 0, .int .u8 0, .int .u8 0, .int .u8 0, .int .u8 0, .int .u8 0, .int .u8 0, .int .u8 0, .int .u8 0, .int .u8 0, .int .u8 0, .int .u8 0, .int .u8 0, .int .u8 0, .int .u8 0, .int .u8 0, .int .u8 0, .int .u8 0, .int .u8 0])] [2, 6, 9])
  (.seq (.seq (.reg [B 10 (.asg (.k (.c (.int .i64 0))))] [2, 6, 9, 10])
  (.block 6 (.loop (.seq (.seq (.reg [B 55 (.mv (.t 10)), B 56 (.bin .lt (.t 55) (.k (.c (.int .i64 32))))] [2, 6, 9, 10, 56])
  (.cond (.t 56) .skip
  (.exit 6)))
  (.seq (.block 7 (.reg [B 59 (.mv (.t 10)), B 60 (.mv (.t 10)), B 61 (.bin .quo (.t 60) (.k (.c (.int .i64 4)))), B 62 (.iarr 1 8 (.t 6) (.t 61)), B 63 (.load false 1 (.t 62)), B 64 (.mv (.t 10)), B 65 (.bin .rem (.t 64) (.k (.c (.int .i64 4)))), B 66 (.bin .mul (.k (.c (.int .i64 8))) (.t 65)), B 67 (.bin .sub (.k (.c (.int .i64 24))) (.t 66)), B 68 (.conv .u64 (.t 67)), B 69 (.bin .shr (.t 63) (.t 68)), B 70 (.conv .u8 (.t 69)), B 71 (.iarr 1 32 (.t 9) (.t 59)), Bn (.store 1 (.t 71) (.t 70))] [2, 6, 9, 10]))
  (.reg [B 57 (.mv (.t 10)), B 58 (.bin .add (.t 57) (.k (.c (.int .i64 1)))), B 10 (.asg (.t 58))] [2, 6, 9, 10]))))))
  (.seq (.reg [B 72 (.load true 32 (.t 9)), Bn (.store 32 (.t 2) (.t 72))] [2])
  .ret)))))))))))
def r173 : List ARes := [.cell 2 true 32]
theorem k173 : bChk Tryz.prog 173 Tryz.f173 1 c173 r173 = true := by kernel_rfl
theorem p173 : Tryz.prog.funcs[173]? = some Tryz.f173 := by kernel_rfl

/-- scrivener/scrivenerref10.Root -/
def c185 : BCode :=
  (.seq (.reg [B 2 (.alloc [.int .u8 0, .int .u8 0, .int .u8 0, .int .u8 0, .int .u8 0, .int .u8 0, .int .u8 0, .int .u8 0, .int .u8 0, .int .u8 0, .int .u8 0, .int .u8 0, .int .u8 0, .int .u8 0, .int .u8 0, .int .u8 0, .int .u8 0, .int .u8 0, .int .u8 0, .int .u8 0, .int .u8 0, .int .u8 0, .int .u8 0, .int .u8 0, .int .u8 0, .int .u8 0, .int .u8 0, .int .u8 0, .int .u8 0, .int .u8 0, .int .u8 0, .int .u8 0])] [0, 2])
  (.seq (.seq (.reg [B 4 (.mv (.t 0)), B 5 (.len (.t 4))] [0, 2, 5])
  (.block 0 (.seq (.reg [B 7 (.bin .eq (.t 5) (.k (.c (.int .i64 0)))), B 6 (.asg (.t 7))] [0, 2, 5, 6])
  (.cond (.t 6) (.seq (.reg [B 8 (.call 173 [(.k (.c (.sl 1 [] .nil)))]), Bn (.store 32 (.t 2) (.t 8))] [2])
  .ret)
  (.seq (.reg [B 10 (.bin .eq (.t 5) (.k (.c (.int .i64 1)))), B 9 (.asg (.t 10))] [0, 2, 9])
  (.cond (.t 9) (.seq (.reg [B 11 (.mv (.t 0)), B 12 (.iadr 32 (.t 11) (.k (.c (.int .i64 0)))), B 13 (.load true 32 (.t 12)), Bn (.store 32 (.t 2) (.t 13))] [2])
  .ret)
  .skip))))))
  (.seq (.reg [B 14 (.mv (.t 0)), B 15 (.len (.t 14)), B 16 (.call 241 [(.t 15)]), B 3 (.asg (.t 16))] [0, 2, 3])
  (.seq (.regd [Oo 17 (.mv (.t 0)), Oo 18 (.mv (.t 3)), Oo 19 (.slice 32 (.t 17) none (some (.t 18)) none), Oo 20 (.call 185 [(.t 19)]), Oo 21 (.mv (.t 0)), Oo 22 (.mv (.t 3)), Oo 23 (.slice 32 (.t 21) (some (.t 22)) none none), Oo 24 (.call 185 [(.t 23)]), Oo 25 (.call 242 [(.t 20), (.t 24)]), On (.store 32 (.t 2) (.t 25))]
    (.fl 0 (.fl 1 (.fl 2 (.fl 4 (.fl 5 (.fl 6 (.ch 3 [6] (.ch 7 [] (.ch 8 [] (.ch 9 [] .done)))))))))) [2])
  .ret))))
def r185 : List ARes := [.cell 2 true 32]
theorem k185 : bChk Tryz.prog 185 Tryz.f185 1 c185 r185 = true := by kernel_rfl
theorem p185 : Tryz.prog.funcs[185]? = some Tryz.f185 := by kernel_rfl

/-- scrivener/scrivenerref11.Leaves -/
def c188 : BCode :=
  (.seq (.reg [B 1 (.boxR (.t 0)), B 2 (.asg (.k (.c (.sl 32 [] .nil))))] [1])
  (.seq (.reg [B 3 (.asg (.k (.c (.sl 32 [] .nil))))] [1, 3])
  (.seq (.seq (.reg [B 4 (.asg (.k (.c (.int .i64 0))))] [1, 3, 4])
  (.block 0 (.loop (.seq (.seq (.reg [B 5 (.mv (.t 4)), B 6 (.fadr 35 (.t 1)), B 7 (.load false 1 (.t 6)), B 8 (.len (.t 7)), B 9 (.bin .lt (.t 5) (.t 8))] [1, 3, 4, 9])
  (.cond (.t 9) .skip
  (.exit 0)))
  (.seq (.block 1 (.reg [B 12 (.mv (.t 3)), B 13 (.fadr 35 (.t 1)), B 14 (.load false 1 (.t 13)), B 15 (.mv (.t 4)), B 16 (.iadr 46 (.t 14) (.t 15)), B 17 (.load true 46 (.t 16)), B 18 (.call 245 [(.t 17)]), B 19 (.call 244 [(.t 18)]), B 20 (.slR 32 1 [.int .u8 0, .int .u8 0, .int .u8 0, .int .u8 0, .int .u8 0, .int .u8 0, .int .u8 0, .int .u8 0, .int .u8 0, .int .u8 0, .int .u8 0, .int .u8 0, .int .u8 0, .int .u8 0, .int .u8 0, .int .u8 0, .int .u8 0, .int .u8 0, .int .u8 0, .int .u8 0, .int .u8 0, .int .u8 0, .int .u8 0, .int .u8 0, .int .u8 0, .int .u8 0, .int .u8 0, .int .u8 0, .int .u8 0, .int .u8 0, .int .u8 0, .int .u8 0] [(0, 32, (.t 19))]), B 21 (.app 32 32 (.t 12) (.t 20)), B 3 (.asg (.t 21))] [1, 3, 4]))
  (.reg [B 10 (.mv (.t 4)), B 11 (.bin .add (.t 10) (.k (.c (.int .i64 1)))), B 4 (.asg (.t 11))] [1, 3, 4]))))))
  (.seq (.reg [B 22 (.mv (.t 3)), B 2 (.asg (.t 22))] [2])
  .ret))))
def r188 : List ARes := [.tmp 2]
theorem k188 : bChk Tryz.prog 188 Tryz.f188 1 c188 r188 = true := by kernel_rfl
theorem p188 : Tryz.prog.funcs[188]? = some Tryz.f188 := by kernel_rfl

/-- scrivener/scrivenerref11.Head -/
def c189 : BCode :=
  (.seq (.reg [B 1 (.boxR (.t 0)), B 2 (.alloc [.int .u8 0, .int .u8 0, .int .u8 0, .int .u8 0, .int .u8 0, .int .u8 0, .int .u8 0, .int .u8 0, .int .u8 0, .int .u8 0, .int .u8 0, .int .u8 0, .int .u8 0, .int .u8 0, .int .u8 0, .int .u8 0, .int .u8 0, .int .u8 0, .int .u8 0, .int .u8 0, .int .u8 0, .int .u8 0, .int .u8 0, .int .u8 0, .int .u8 0, .int .u8 0, .int .u8 0, .int .u8 0, .int .u8 0, .int .u8 0, .int .u8 0, .int .u8 0])] [1, 2])
  (.seq (.reg [B 3 (.load true 36 (.t 1)), B 4 (.call 246 [(.t 3)]), B 5 (.call 173 [(.t 4)]), Bn (.store 32 (.t 2) (.t 5))] [2])
  .ret))
def r189 : List ARes := [.cell 2 true 32]
theorem k189 : bChk Tryz.prog 189 Tryz.f189 1 c189 r189 = true := by kernel_rfl
theorem p189 : Tryz.prog.funcs[189]? = some Tryz.f189 := by kernel_rfl

/-- scrivener/scrivenerref11.Decode -/
def c193 : BCode :=
  (.seq (.reg [B 2 (.alloc [.int .i64 0, .int .i64 0, .int .i64 0, .int .u8 0, .int .u8 0, .int .u8 0, .int .u8 0, .int .u8 0, .int .u8 0, .int .u8 0, .int .u8 0, .int .u8 0, .int .u8 0, .int .u8 0, .int .u8 0, .int .u8 0, .int .u8 0, .int .u8 0, .int .u8 0, .int .u8 0, .int .u8 0, .int .u8 0, .int .u8 0, .int .u8 0, .int .u8 0, .int .u8 0, .int .u8 0, .int .u8 0, .int .u8 0, .int .u8 0, .int .u8 0, .int .u8 0, .int .u8 0, .int .u8 0, .int .u8 0, .sl 46 [] .nil]), B 3 (.asg (.k (.c (.int .i64 0))))] [0, 2])
  (.seq (.reg [B 8 (.mv (.t 0)), B 9 (.build [.sl 1 [] .nil, .int .i64 0] [(0, 1, (.t 8))]), B 10 (.box (.t 9)), B 4 (.asg (.t 10))] [2, 4])
  (.seq (.reg [B 5 (.alloc [.int .i64 0, .int .i64 0, .int .i64 0, .int .u8 0, .int .u8 0, .int .u8 0, .int .u8 0, .int .u8 0, .int .u8 0, .int .u8 0, .int .u8 0, .int .u8 0, .int .u8 0, .int .u8 0, .int .u8 0, .int .u8 0, .int .u8 0, .int .u8 0, .int .u8 0, .int .u8 0, .int .u8 0, .int .u8 0, .int .u8 0, .int .u8 0, .int .u8 0, .int .u8 0, .int .u8 0, .int .u8 0, .int .u8 0, .int .u8 0, .int .u8 0, .int .u8 0, .int .u8 0, .int .u8 0, .int .u8 0, .sl 46 [] .nil])] [2, 4, 5])
  (.seq (.reg [B 11 (.mv (.t 4)), B 12 (.call 248 [(.t 11)]), B 13 (.fadr 0 (.t 5)), Bn (.store 1 (.t 13) (.t 12))] [2, 4, 5])
  (.seq (.reg [B 14 (.mv (.t 4)), B 15 (.call 248 [(.t 14)]), B 16 (.fadr 1 (.t 5)), Bn (.store 1 (.t 16) (.t 15))] [2, 4, 5])
  (.seq (.reg [B 17 (.mv (.t 4)), B 18 (.call 248 [(.t 17)]), B 19 (.fadr 2 (.t 5)), Bn (.store 1 (.t 19) (.t 18))] [2, 4, 5])
  (.seq (.reg [B 20 (.mv (.t 4)), B 21 (.call 249 [(.t 20)]), B 22 (.fadr 3 (.t 5)), Bn (.store 32 (.t 22) (.t 21))] [2, 4, 5])
  (.seq (.reg [B 23 (.mv (.t 4)), B 24 (.call 248 [(.t 23)]), B 6 (.asg (.t 24))] [2, 4, 5, 6])
  (.seq (.seq (.reg [B 7 (.asg (.k (.c (.int .i64 0))))] [2, 4, 5, 6, 7])
  (.block 0 (.loop (.seq (.seq (.reg [B 25 (.mv (.t 7)), B 26 (.mv (.t 6)), B 27 (.bin .lt (.t 25) (.t 26)), B 28 (.mv (.t 27)), Bg 29 (.mv (.t 4)) 28 true, Bg 30 (.nilck (.t 29)) 28 true, Bg 31 (.fadr 1 (.t 30)) 28 true, Bg 32 (.load false 1 (.t 31)) 28 true, Bg 33 (.bin .eq (.t 32) (.k (.c (.int .i64 0)))) 28 true, B 34 (.pick (.t 28) (.t 33) (.k (.c (.bool false))))] [2, 4, 5, 6, 7, 34])
  (.cond (.t 34) .skip
  (.exit 0)))
  (.seq (.block 1 (.regd [Oo 37 (.fadr 35 (.t 5)), Oo 38 (.load false 1 (.t 37)), Oo 39 (.mv (.t 4)), Oo 40 (.call 250 [(.t 39)]), Oo 41 (.slR 46 1 [.int .i64 0, .str [], .int .i64 0, .int .i64 0, .int .i64 0, .int .i64 0, .int .i64 0, .int .i64 0, .str [], .sl 1 [] .nil, .sl 6 [] .nil, .int .u8 0, .int .u8 0, .int .u8 0, .int .u8 0, .int .u8 0, .int .u8 0, .int .u8 0, .int .u8 0, .int .u8 0, .int .u8 0, .int .u8 0, .int .u8 0, .int .u8 0, .int .u8 0, .int .u8 0, .int .u8 0, .int .u8 0, .int .u8 0, .int .u8 0, .int .u8 0, .int .u8 0, .int .u8 0, .int .u8 0, .int .u8 0, .int .u8 0, .int .u8 0, .int .u8 0, .int .u8 0, .int .u8 0, .int .u8 0, .int .u8 0, .int .u8 0, .bool false, .int .i64 0, .int .i64 0] [(0, 46, (.t 40))]), Oo 42 (.app 46 192 (.t 38) (.t 41)), Oo 43 (.fadr 35 (.t 5)), On (.store 1 (.t 43) (.t 42))]
    (.fl 0 (.fl 1 (.fl 2 (.ch 3 [1] (.fl 4 (.ch 5 [] (.fl 6 (.ch 7 [] .done)))))))) [2, 4, 5, 6, 7]))
  (.reg [B 35 (.mv (.t 7)), B 36 (.bin .add (.t 35) (.k (.c (.int .i64 1)))), B 7 (.asg (.t 36))] [2, 4, 5, 6, 7]))))))
  (.seq (.seq (.reg [B 44 (.mv (.t 4)), B 45 (.nilck (.t 44)), B 46 (.fadr 1 (.t 45)), B 47 (.load false 1 (.t 46)), B 48 (.bin .eq (.t 47) (.k (.c (.int .i64 0)))), B 49 (.mv (.t 48)), Bg 50 (.mv (.t 4)) 49 true, Bg 51 (.nilck (.t 50)) 49 true, Bg 52 (.fadr 0 (.t 51)) 49 true, Bg 53 (.load false 1 (.t 52)) 49 true, Bg 54 (.len (.t 53)) 49 true, Bg 55 (.bin .gt (.t 54) (.k (.c (.int .i64 0)))) 49 true, B 56 (.pick (.t 49) (.t 55) (.k (.c (.bool false))))] [2, 4, 5, 56])
  (.cond (.t 56) (.reg [B 57 (.mv (.t 4)), B 58 (.nilck (.t 57)), B 59 (.fadr 1 (.t 58)), Bn (.store 1 (.t 59) (.k (.c (.int .i64 3))))] [2, 4, 5])
  .skip))
  (.seq (.seq (.reg [B 60 (.mv (.t 4)), B 61 (.nilck (.t 60)), B 62 (.fadr 1 (.t 61)), B 63 (.load false 1 (.t 62)), B 64 (.bin .eq (.t 63) (.k (.c (.int .i64 0))))] [2, 4, 5, 64])
  (.cond (.t 64) (.reg [B 65 (.mv (.t 4)), B 66 (.load true 36 (.t 5)), B 67 (.call 148 [(.t 66)]), B 68 (.nilck (.t 65)), B 69 (.fadr 1 (.t 68)), Bn (.store 1 (.t 69) (.t 67))] [2, 4, 5])
  .skip))
  (.seq (.seq (.reg [B 70 (.mv (.t 4)), B 71 (.nilck (.t 70)), B 72 (.fadr 1 (.t 71)), B 73 (.load false 1 (.t 72)), B 74 (.bin .ne (.t 73) (.k (.c (.int .i64 0))))] [2, 4, 5, 74])
  (.cond (.t 74) (.seq (.regd [Oo 75 (.build [.int .i64 0, .int .i64 0, .int .i64 0, .int .u8 0, .int .u8 0, .int .u8 0, .int .u8 0, .int .u8 0, .int .u8 0, .int .u8 0, .int .u8 0, .int .u8 0, .int .u8 0, .int .u8 0, .int .u8 0, .int .u8 0, .int .u8 0, .int .u8 0, .int .u8 0, .int .u8 0, .int .u8 0, .int .u8 0, .int .u8 0, .int .u8 0, .int .u8 0, .int .u8 0, .int .u8 0, .int .u8 0, .int .u8 0, .int .u8 0, .int .u8 0, .int .u8 0, .int .u8 0, .int .u8 0, .int .u8 0, .sl 46 [] .nil] []), Oo 76 (.mv (.t 4)), Oo 77 (.nilck (.t 76)), Oo 78 (.fadr 1 (.t 77)), Oo 79 (.load false 1 (.t 78)), On (.store 36 (.t 2) (.t 75)), Oo 3 (.asg (.t 79))]
    (.fl 0 (.fl 1 (.fl 2 (.fl 3 (.fl 4 (.ch 5 [4] (.ch 6 [] .done))))))) [2, 3])
  .ret)
  .skip))
  (.seq (.reg [B 80 (.load true 36 (.t 5)), Bn (.store 36 (.t 2) (.t 80)), B 3 (.asg (.k (.c (.int .i64 0))))] [2, 3])
  .ret)))))))))))))
def r193 : List ARes := [.cell 2 true 36, .tmp 3]
theorem k193 : bChk Tryz.prog 193 Tryz.f193 1 c193 r193 = true := by kernel_rfl
theorem p193 : Tryz.prog.funcs[193]? = some Tryz.f193 := by kernel_rfl

/-- (*scrivener/scrivenerref12.Journal).Last -/
def c194 : BCode :=
  (.seq (.reg [B 2 (.alloc [.int .u8 0, .int .u8 0, .int .u8 0, .int .u8 0, .int .u8 0, .int .u8 0, .int .u8 0, .int .u8 0, .int .u8 0, .int .u8 0, .int .u8 0, .int .u8 0, .int .u8 0, .int .u8 0, .int .u8 0, .int .u8 0, .int .u8 0, .int .u8 0, .int .u8 0, .int .u8 0, .int .u8 0, .int .u8 0, .int .u8 0, .int .u8 0, .int .u8 0, .int .u8 0, .int .u8 0, .int .u8 0, .int .u8 0, .int .u8 0, .int .u8 0, .int .u8 0])] [0, 2])
  (.seq (.seq (.reg [B 3 (.mv (.t 0)), B 4 (.nilck (.t 3)), B 5 (.fadr 2 (.t 4)), B 6 (.load false 1 (.t 5)), B 7 (.len (.t 6)), B 8 (.bin .eq (.t 7) (.k (.c (.int .i64 0))))] [0, 2, 8])
  (.cond (.t 8) (.seq (.reg [B 9 (.build [.int .u8 0, .int .u8 0, .int .u8 0, .int .u8 0, .int .u8 0, .int .u8 0, .int .u8 0, .int .u8 0, .int .u8 0, .int .u8 0, .int .u8 0, .int .u8 0, .int .u8 0, .int .u8 0, .int .u8 0, .int .u8 0, .int .u8 0, .int .u8 0, .int .u8 0, .int .u8 0, .int .u8 0, .int .u8 0, .int .u8 0, .int .u8 0, .int .u8 0, .int .u8 0, .int .u8 0, .int .u8 0, .int .u8 0, .int .u8 0, .int .u8 0, .int .u8 0] []), Bn (.store 32 (.t 2) (.t 9))] [2])
  .ret)
  .skip))
  (.seq (.regd [Oo 10 (.mv (.t 0)), Oo 11 (.nilck (.t 10)), Oo 12 (.fadr 2 (.t 11)), Oo 13 (.load false 1 (.t 12)), Oo 14 (.mv (.t 0)), Oo 15 (.nilck (.t 14)), Oo 16 (.fadr 2 (.t 15)), Oo 17 (.load false 1 (.t 16)), Oo 18 (.len (.t 17)), Oo 19 (.bin .sub (.t 18) (.k (.c (.int .i64 1)))), Oo 20 (.iadr 32 (.t 13) (.t 19)), Oo 21 (.load true 32 (.t 20)), On (.store 32 (.t 2) (.t 21))]
    (.fl 0 (.fl 1 (.fl 2 (.fl 3 (.fl 4 (.fl 5 (.fl 6 (.fl 7 (.fl 8 (.fl 9 (.fl 10 (.fl 11 (.ch 12 [] .done))))))))))))) [2])
  .ret)))
def r194 : List ARes := [.cell 2 true 32]
theorem k194 : bChk Tryz.prog 194 Tryz.f194 1 c194 r194 = true := by kernel_rfl
theorem p194 : Tryz.prog.funcs[194]? = some Tryz.f194 := by kernel_rfl

/-- scrivener/scrivenerref11.Hash -/
def c195 : BCode :=
  (.seq (.reg [B 1 (.boxR (.t 0)), B 2 (.alloc [.int .u8 0, .int .u8 0, .int .u8 0, .int .u8 0, .int .u8 0, .int .u8 0, .int .u8 0, .int .u8 0, .int .u8 0, .int .u8 0, .int .u8 0, .int .u8 0, .int .u8 0, .int .u8 0, .int .u8 0, .int .u8 0, .int .u8 0, .int .u8 0, .int .u8 0, .int .u8 0, .int .u8 0, .int .u8 0, .int .u8 0, .int .u8 0, .int .u8 0, .int .u8 0, .int .u8 0, .int .u8 0, .int .u8 0, .int .u8 0, .int .u8 0, .int .u8 0]), B 3 (.asg (.k (.c (.int .i64 0))))] [1, 2])
  (.seq (.reg [B 5 (.load true 36 (.t 1)), B 6 (.call 148 [(.t 5)]), B 4 (.asg (.t 6))] [1, 2, 4])
  (.seq (.seq (.reg [B 7 (.mv (.t 4)), B 8 (.bin .ne (.t 7) (.k (.c (.int .i64 0))))] [1, 2, 4, 8])
  (.cond (.t 8) (.seq (.reg [B 9 (.build [.int .u8 0, .int .u8 0, .int .u8 0, .int .u8 0, .int .u8 0, .int .u8 0, .int .u8 0, .int .u8 0, .int .u8 0, .int .u8 0, .int .u8 0, .int .u8 0, .int .u8 0, .int .u8 0, .int .u8 0, .int .u8 0, .int .u8 0, .int .u8 0, .int .u8 0, .int .u8 0, .int .u8 0, .int .u8 0, .int .u8 0, .int .u8 0, .int .u8 0, .int .u8 0, .int .u8 0, .int .u8 0, .int .u8 0, .int .u8 0, .int .u8 0, .int .u8 0] []), B 10 (.mv (.t 4)), Bn (.store 32 (.t 2) (.t 9)), B 3 (.asg (.t 10))] [2, 3])
  .ret)
  .skip))
  (.seq (.regd [Oo 11 (.load true 36 (.t 1)), Oo 12 (.call 189 [(.t 11)]), Oo 13 (.load true 36 (.t 1)), Oo 14 (.call 188 [(.t 13)]), Oo 15 (.call 185 [(.t 14)]), Oo 16 (.fadr 35 (.t 1)), Oo 17 (.load false 1 (.t 16)), Oo 18 (.len (.t 17)), Oo 19 (.call 251 [(.t 15), (.t 18)]), Oo 20 (.call 242 [(.t 12), (.t 19)]), On (.store 32 (.t 2) (.t 20)), Oo 3 (.asg (.k (.c (.int .i64 0))))]
    (.fl 0 (.fl 2 (.fl 5 (.fl 6 (.fl 7 (.ch 1 [2, 6, 7] (.ch 3 [6, 7] (.ch 4 [6, 7] (.ch 8 [] (.ch 9 [] (.ch 10 [] (.ch 11 [] .done)))))))))))) [2, 3])
  .ret))))
def r195 : List ARes := [.cell 2 true 32, .tmp 3]
theorem k195 : bChk Tryz.prog 195 Tryz.f195 1 c195 r195 = true := by kernel_rfl
theorem p195 : Tryz.prog.funcs[195]? = some Tryz.f195 := by kernel_rfl

/-- scrivener/scrivenerref12.number -/
def c196 : BCode :=
  (.seq (.reg [B 2 (.asg (.k (.c (.int .i64 0))))] [0])
  (.seq (.seq (.reg [B 5 (.mv (.t 0)), B 6 (.slen (.t 5)), B 7 (.bin .ne (.t 6) (.k (.c (.int .i64 9)))), B 8 (.mv (.t 7)), Bg 9 (.mv (.t 0)) 8 false, Bg 10 (.sidx (.t 9) (.k (.c (.int .i64 0)))) 8 false, Bg 11 (.bin .ne (.t 10) (.k (.c (.int .u8 100)))) 8 false, B 12 (.pick (.t 8) (.k (.c (.bool true))) (.t 11))] [0, 12])
  (.cond (.t 12) (.seq (.reg [B 2 (.asg (.k (.c (.int .i64 (-1)))))] [2])
  .ret)
  .skip))
  (.seq (.reg [B 3 (.asg (.k (.c (.int .i64 0))))] [0, 3])
  (.seq (.seq (.reg [B 4 (.asg (.k (.c (.int .i64 1))))] [0, 3, 4])
  (.block 0 (.loop (.seq (.seq (.reg [B 13 (.mv (.t 4)), B 14 (.bin .lt (.t 13) (.k (.c (.int .i64 9))))] [0, 3, 4, 14])
  (.cond (.t 14) .skip
  (.exit 0)))
  (.seq (.block 1 (.seq (.seq (.reg [B 17 (.mv (.t 0)), B 18 (.mv (.t 4)), B 19 (.sidx (.t 17) (.t 18)), B 20 (.bin .lt (.t 19) (.k (.c (.int .u8 48)))), B 21 (.mv (.t 20)), Bg 22 (.mv (.t 0)) 21 false, Bg 23 (.mv (.t 4)) 21 false, Bg 24 (.sidx (.t 22) (.t 23)) 21 false, Bg 25 (.bin .gt (.t 24) (.k (.c (.int .u8 57)))) 21 false, B 26 (.pick (.t 21) (.k (.c (.bool true))) (.t 25))] [0, 3, 4, 26])
  (.cond (.t 26) (.seq (.reg [B 2 (.asg (.k (.c (.int .i64 (-1)))))] [2])
  .ret)
  .skip))
  (.reg [B 27 (.mv (.t 3)), B 28 (.bin .mul (.t 27) (.k (.c (.int .i64 10)))), B 29 (.mv (.t 0)), B 30 (.mv (.t 4)), B 31 (.sidx (.t 29) (.t 30)), B 32 (.conv .i64 (.t 31)), B 33 (.bin .add (.t 28) (.t 32)), B 34 (.bin .sub (.t 33) (.k (.c (.int .i64 48)))), B 3 (.asg (.t 34))] [0, 3, 4])))
  (.reg [B 15 (.mv (.t 4)), B 16 (.bin .add (.t 15) (.k (.c (.int .i64 1)))), B 4 (.asg (.t 16))] [0, 3, 4]))))))
  (.seq (.reg [B 35 (.mv (.t 3)), B 2 (.asg (.t 35))] [2])
  .ret)))))
def r196 : List ARes := [.tmp 2]
theorem k196 : bChk Tryz.prog 196 Tryz.f196 1 c196 r196 = true := by kernel_rfl
theorem p196 : Tryz.prog.funcs[196]? = some Tryz.f196 := by kernel_rfl

/-- (*scrivener/scrivenerref3.Disk).Remove -/
def c197 : BCode :=
  (.seq (.reg [B 4 (.asg (.k (.c (.int .i64 0))))] [0, 1])
  (.seq (.reg [B 8 (.mv (.t 0)), B 9 (.mv (.t 1)), B 10 (.slR 1 1 [.str []] [(0, 1, (.t 9))]), B 11 (.call 151 [(.t 8), (.t 10)]), B 5 (.asg (.t 11))] [0, 1, 5])
  (.seq (.seq (.reg [B 12 (.mv (.t 5)), B 13 (.bin .ne (.t 12) (.k (.c (.int .i64 0))))] [0, 1, 5, 13])
  (.cond (.t 13) (.seq (.reg [B 14 (.mv (.t 5)), B 4 (.asg (.t 14))] [4])
  .ret)
  .skip))
  (.seq (.reg [B 16 (.mv (.t 0)), B 17 (.mv (.t 1)), B 18 (.call 152 [(.t 16), (.t 17)]), B 15 (.mv (.t 18)), B 19 (.extract 0 (.t 15)), B 20 (.extract 1 (.t 15)), B 6 (.asg (.t 19)), B 7 (.asg (.t 20))] [0, 1, 7])
  (.seq (.seq (.reg [B 21 (.mv (.t 7)), B 22 (.not (.t 21))] [0, 1, 22])
  (.cond (.t 22) (.seq (.reg [B 4 (.asg (.k (.c (.int .i64 7))))] [4])
  .ret)
  .skip))
  (.seq (.reg [B 23 (.mv (.t 0)), B 24 (.mv (.t 1)), B 25 (.call 156 [(.t 23), (.t 24)])] [0])
  (.seq (.reg [B 26 (.mv (.t 0)), B 27 (.call 154 [(.t 26)]), B 4 (.asg (.t 27))] [4])
  .ret)))))))
def r197 : List ARes := [.tmp 4]
theorem k197 : bChk Tryz.prog 197 Tryz.f197 2 c197 r197 = true := by kernel_rfl
theorem p197 : Tryz.prog.funcs[197]? = some Tryz.f197 := by kernel_rfl

/-- (*scrivener/scrivenerref12.Journal).gone -/
def c198 : BCode :=
  (.seq (.reg [B 2 (.asg (.k (.c (.nilmap))))] [0])
  (.seq (.reg [B 7 (.mkmap), B 3 (.asg (.t 7))] [0, 3])
  (.seq (.seq (.reg [B 4 (.asg (.k (.c (.int .i64 0))))] [0, 3, 4])
  (.block 0 (.loop (.seq (.seq (.reg [B 8 (.mv (.t 4)), B 9 (.mv (.t 0)), B 10 (.nilck (.t 9)), B 11 (.fadr 1 (.t 10)), B 12 (.load false 1 (.t 11)), B 13 (.len (.t 12)), B 14 (.bin .lt (.t 8) (.t 13))] [0, 3, 4, 14])
  (.cond (.t 14) .skip
  (.exit 0)))
  (.seq (.block 1 (.seq (.reg [B 5 (.asg (.k (.c (.int .i64 0))))] [0, 3, 4, 5])
  (.block 2 (.loop (.seq (.seq (.reg [B 17 (.mv (.t 5)), B 18 (.mv (.t 0)), B 19 (.nilck (.t 18)), B 20 (.fadr 1 (.t 19)), B 21 (.load false 1 (.t 20)), B 22 (.mv (.t 4)), B 23 (.iadr 36 (.t 21) (.t 22)), B 24 (.fadr 35 (.t 23)), B 25 (.load false 1 (.t 24)), B 26 (.len (.t 25)), B 27 (.bin .lt (.t 17) (.t 26))] [0, 3, 4, 5, 27])
  (.cond (.t 27) .skip
  (.exit 2)))
  (.seq (.block 3 (.seq (.reg [B 30 (.mv (.t 0)), B 31 (.nilck (.t 30)), B 32 (.fadr 1 (.t 31)), B 33 (.load false 1 (.t 32)), B 34 (.mv (.t 4)), B 35 (.iadr 36 (.t 33) (.t 34)), B 36 (.fadr 35 (.t 35)), B 37 (.load false 1 (.t 36)), B 38 (.mv (.t 5)), B 39 (.iadr 46 (.t 37) (.t 38)), B 40 (.load true 46 (.t 39)), B 6 (.alloc [.int .i64 0, .str [], .int .i64 0, .int .i64 0, .int .i64 0, .int .i64 0, .int .i64 0, .int .i64 0, .str [], .sl 1 [] .nil, .sl 6 [] .nil, .int .u8 0, .int .u8 0, .int .u8 0, .int .u8 0, .int .u8 0, .int .u8 0, .int .u8 0, .int .u8 0, .int .u8 0, .int .u8 0, .int .u8 0, .int .u8 0, .int .u8 0, .int .u8 0, .int .u8 0, .int .u8 0, .int .u8 0, .int .u8 0, .int .u8 0, .int .u8 0, .int .u8 0, .int .u8 0, .int .u8 0, .int .u8 0, .int .u8 0, .int .u8 0, .int .u8 0, .int .u8 0, .int .u8 0, .int .u8 0, .int .u8 0, .int .u8 0, .bool false, .int .i64 0, .int .i64 0]), Bn (.store 46 (.t 6) (.t 40))] [0, 3, 4, 5, 6])
  (.seq (.reg [B 41 (.fadr 0 (.t 6)), B 42 (.load false 1 (.t 41)), B 43 (.bin .eq (.t 42) (.k (.c (.int .i64 4))))] [0, 3, 4, 5, 6, 43])
  (.cond (.t 43) (.reg [B 44 (.mv (.t 3)), B 45 (.fadr 44 (.t 6)), B 46 (.load true 2 (.t 45)), Bn (.mupd (true, [.i .i64, .i .i64]) (.t 44) (.t 46) (.k (.c (.int .i64 1))))] [0, 3, 4, 5])
  .skip))))
  (.reg [B 28 (.mv (.t 5)), B 29 (.bin .add (.t 28) (.k (.c (.int .i64 1)))), B 5 (.asg (.t 29))] [0, 3, 4, 5])))))))
  (.reg [B 15 (.mv (.t 4)), B 16 (.bin .add (.t 15) (.k (.c (.int .i64 1)))), B 4 (.asg (.t 16))] [0, 3, 4]))))))
  (.seq (.reg [B 47 (.mv (.t 3)), B 2 (.asg (.t 47))] [2])
  .ret))))
def r198 : List ARes := [.tmp 2]
theorem k198 : bChk Tryz.prog 198 Tryz.f198 1 c198 r198 = true := by kernel_rfl
theorem p198 : Tryz.prog.funcs[198]? = some Tryz.f198 := by kernel_rfl

/-- (*scrivener/scrivenerref12.Journal).block -/
def c199 : BCode :=
  (.seq (.reg [B 6 (.asg (.k (.c (.int .i64 0)))), B 7 (.asg (.k (.c (.bool false))))] [0, 1, 2])
  (.seq (.reg [B 28 (.mkmap), B 8 (.asg (.t 28))] [0, 1, 2, 8])
  (.seq (.regd [Oo 30 (.mv (.t 0)), Oo 31 (.nilck (.t 30)), Oo 32 (.fadr 0 (.t 31)), Oo 33 (.load false 1 (.t 32)), Oo 34 (.mv (.t 1)), Oo 35 (.call 252 [(.t 34)]), Oo 36 (.call 141 [(.t 33), (.t 35)]), Oo 29 (.mv (.t 36)), Oo 37 (.extract 0 (.t 29)), Oo 38 (.extract 1 (.t 29)), Oo 9 (.asg (.t 37)), Oo 10 (.asg (.t 38))]
    (.fl 0 (.fl 1 (.fl 2 (.fl 3 (.fl 4 (.ch 5 [3] (.ch 6 [] (.fl 7 (.fl 8 (.fl 9 (.ch 10 [] (.ch 11 [] .done)))))))))))) [0, 1, 2, 8, 9, 10])
  (.seq (.seq (.reg [B 39 (.mv (.t 10)), B 40 (.bin .eq (.t 39) (.k (.c (.int .i64 0))))] [0, 1, 2, 8, 9, 40])
  (.cond (.t 40) (.seq (.reg [B 42 (.mv (.t 9)), B 43 (.call 72 [(.t 42)]), B 41 (.mv (.t 43)), B 44 (.extract 0 (.t 41)), B 45 (.extract 1 (.t 41)), B 46 (.extract 2 (.t 41)), B 11 (.asg (.t 44)), B 12 (.asg (.t 45)), B 13 (.asg (.t 46))] [0, 1, 2, 8, 9, 11, 12, 13])
  (.seq (.seq (.reg [B 47 (.mv (.t 13)), B 48 (.bin .ne (.t 47) (.k (.c (.int .i64 0)))), B 49 (.mv (.t 48)), Bg 50 (.mv (.t 12)) 49 false, Bg 51 (.mv (.t 9)) 49 false, Bg 52 (.len (.t 51)) 49 false, Bg 53 (.bin .ne (.t 50) (.t 52)) 49 false, B 54 (.pick (.t 49) (.k (.c (.bool true))) (.t 53))] [0, 1, 2, 8, 11, 54])
  (.cond (.t 54) (.seq (.reg [B 6 (.asg (.k (.c (.int .i64 3)))), B 7 (.asg (.k (.c (.bool false))))] [6, 7])
  .ret)
  .skip))
  (.block 0 (.loop (.seq (.seq (.reg [B 55 (.mv (.t 11)), B 56 (.len (.t 55)), B 57 (.bin .gt (.t 56) (.k (.c (.int .i64 0))))] [0, 1, 2, 8, 11, 57])
  (.cond (.t 57) .skip
  (.exit 0)))
  (.block 1 (.seq (.reg [B 59 (.mv (.t 11)), B 60 (.call 115 [(.t 59)]), B 58 (.mv (.t 60)), B 61 (.extract 0 (.t 58)), B 62 (.extract 1 (.t 58)), B 63 (.extract 2 (.t 58)), B 14 (.asg (.t 61)), B 15 (.asg (.t 62)), B 16 (.asg (.t 63))] [0, 1, 2, 8, 11, 14, 15, 16])
  (.seq (.seq (.reg [B 64 (.mv (.t 16)), B 65 (.bin .ne (.t 64) (.k (.c (.int .i64 0))))] [0, 1, 2, 8, 11, 14, 15, 65])
  (.cond (.t 65) (.seq (.reg [B 6 (.asg (.k (.c (.int .i64 3)))), B 7 (.asg (.k (.c (.bool false))))] [6, 7])
  .ret)
  .skip))
  (.seq (.reg [B 67 (.mv (.t 11)), B 68 (.mv (.t 15)), B 69 (.slice 1 (.t 67) (some (.t 68)) none none), B 70 (.call 115 [(.t 69)]), B 66 (.mv (.t 70)), B 71 (.extract 0 (.t 66)), B 72 (.extract 1 (.t 66)), B 73 (.extract 2 (.t 66)), B 17 (.asg (.t 71)), B 18 (.asg (.t 72)), B 16 (.asg (.t 73))] [0, 1, 2, 8, 11, 14, 15, 16, 17, 18])
  (.seq (.seq (.reg [B 74 (.mv (.t 16)), B 75 (.bin .ne (.t 74) (.k (.c (.int .i64 0)))), B 76 (.mv (.t 75)), Bg 77 (.mv (.t 17)) 76 false, Bg 78 (.mv (.t 11)) 76 false, Bg 79 (.len (.t 78)) 76 false, Bg 80 (.mv (.t 15)) 76 false, Bg 81 (.bin .sub (.t 79) (.t 80)) 76 false, Bg 82 (.mv (.t 18)) 76 false, Bg 83 (.bin .sub (.t 81) (.t 82)) 76 false, Bg 84 (.conv .u64 (.t 83)) 76 false, Bg 85 (.bin .gt (.t 77) (.t 84)) 76 false, B 86 (.pick (.t 76) (.k (.c (.bool true))) (.t 85)), B 87 (.mv (.t 86)), Bg 88 (.mv (.t 14)) 87 false, Bg 89 (.bin .gt (.t 88) (.k (.c (.int .u64 2147483648)))) 87 false, B 90 (.pick (.t 87) (.k (.c (.bool true))) (.t 89))] [0, 1, 2, 8, 11, 14, 15, 17, 18, 90])
  (.cond (.t 90) (.seq (.reg [B 6 (.asg (.k (.c (.int .i64 3)))), B 7 (.asg (.k (.c (.bool false))))] [6, 7])
  .ret)
  .skip))
  (.seq (.reg [B 91 (.mv (.t 8)), B 92 (.mv (.t 14)), B 93 (.conv .i64 (.t 92)), B 94 (.mv (.t 11)), B 95 (.mv (.t 15)), B 96 (.mv (.t 18)), B 97 (.bin .add (.t 95) (.t 96)), B 98 (.mv (.t 15)), B 99 (.mv (.t 18)), B 100 (.bin .add (.t 98) (.t 99)), B 101 (.mv (.t 17)), B 102 (.conv .i64 (.t 101)), B 103 (.bin .add (.t 100) (.t 102)), B 104 (.slice 1 (.t 94) (some (.t 97)) (some (.t 103)) none), Bn (.mupd (false, [.i .i64]) (.t 91) (.t 93) (.t 104))] [0, 1, 2, 8, 11, 15, 17, 18])
  (.reg [B 105 (.mv (.t 11)), B 106 (.mv (.t 15)), B 107 (.mv (.t 18)), B 108 (.bin .add (.t 106) (.t 107)), B 109 (.mv (.t 17)), B 110 (.conv .i64 (.t 109)), B 111 (.bin .add (.t 108) (.t 110)), B 112 (.slice 1 (.t 105) (some (.t 111)) none none), B 11 (.asg (.t 112))] [0, 1, 2, 8, 11]))))))))))))
  .skip))
  (.seq (.reg [B 19 (.asg (.k (.c (.bool false))))] [0, 1, 2, 8, 19])
  (.seq (.seq (.reg [B 20 (.asg (.k (.c (.int .i64 0))))] [0, 1, 2, 8, 19, 20])
  (.block 2 (.loop (.seq (.seq (.reg [B 113 (.mv (.t 20)), B 114 (.mv (.t 0)), B 115 (.nilck (.t 114)), B 116 (.fadr 1 (.t 115)), B 117 (.load false 1 (.t 116)), B 118 (.mv (.t 1)), B 119 (.iadr 36 (.t 117) (.t 118)), B 120 (.fadr 35 (.t 119)), B 121 (.load false 1 (.t 120)), B 122 (.len (.t 121)), B 123 (.bin .lt (.t 113) (.t 122))] [0, 1, 2, 8, 19, 20, 123])
  (.cond (.t 123) .skip
  (.exit 2)))
  (.seq (.block 3 (.seq (.reg [B 126 (.mv (.t 0)), B 127 (.nilck (.t 126)), B 128 (.fadr 1 (.t 127)), B 129 (.load false 1 (.t 128)), B 130 (.mv (.t 1)), B 131 (.iadr 36 (.t 129) (.t 130)), B 132 (.fadr 35 (.t 131)), B 133 (.load false 1 (.t 132)), B 134 (.mv (.t 20)), B 135 (.iadr 46 (.t 133) (.t 134)), B 21 (.asg (.t 135))] [0, 1, 2, 8, 19, 20, 21])
  (.seq (.reg [B 137 (.mv (.t 8)), B 138 (.mv (.t 20)), B 139 (.lookup true (false, [.i .i64]) (.c (.sl 1 [] .nil)) (.t 137) (.t 138)), B 136 (.mv (.t 139)), B 140 (.extract 0 (.t 136)), B 141 (.extract 1 (.t 136)), B 22 (.asg (.t 140)), B 23 (.asg (.t 141))] [0, 1, 2, 8, 19, 20, 21, 22, 23])
  (.seq (.seq (.reg [B 142 (.mv (.t 21)), B 143 (.nilck (.t 142)), B 144 (.fadr 0 (.t 143)), B 145 (.load false 1 (.t 144)), B 146 (.bin .ne (.t 145) (.k (.c (.int .i64 2))))] [0, 1, 2, 8, 19, 20, 21, 22, 23, 146])
  (.cond (.t 146) (.exit 3)
  .skip))
  (.seq (.seq (.reg [B 147 (.mv (.t 2)), B 148 (.mv (.t 1)), B 149 (.mv (.t 20)), B 150 (.build [.int .i64 0, .int .i64 0] [(0, 1, (.t 148)), (1, 1, (.t 149))]), B 151 (.lookup false (true, [.i .i64, .i .i64]) (.c (.int .i64 0)) (.t 147) (.t 150)), B 152 (.bin .eq (.t 151) (.k (.c (.int .i64 1))))] [0, 1, 2, 8, 19, 20, 21, 22, 23, 152])
  (.cond (.t 152) (.seq (.reg [B 153 (.mv (.t 19)), B 154 (.mv (.t 153)), Bg 155 (.mv (.t 23)) 154 false, B 156 (.pick (.t 154) (.k (.c (.bool true))) (.t 155)), B 19 (.asg (.t 156))] [0, 1, 2, 8, 19, 20])
  (.exit 3))
  .skip))
  (.seq (.seq (.reg [B 157 (.mv (.t 23)), B 158 (.not (.t 157))] [0, 1, 2, 8, 19, 20, 21, 22, 158])
  (.cond (.t 158) (.seq (.reg [B 6 (.asg (.k (.c (.int .i64 3)))), B 7 (.asg (.k (.c (.bool false))))] [6, 7])
  .ret)
  .skip))
  (.seq (.reg [B 160 (.mv (.t 22)), B 161 (.call 75 [(.t 160)]), B 159 (.mv (.t 161)), B 162 (.extract 0 (.t 159)), B 163 (.extract 1 (.t 159)), B 24 (.alloc [.int .i64 0, .int .i64 0, .int .i64 0, .str [], .sl 1 [] .nil, .sl 6 [] .nil]), Bn (.store 6 (.t 24) (.t 162)), B 25 (.asg (.t 163))] [0, 1, 2, 8, 19, 20, 21, 24, 25])
  (.seq (.seq (.reg [B 164 (.mv (.t 25)), B 165 (.bin .ne (.t 164) (.k (.c (.int .i64 0))))] [0, 1, 2, 8, 19, 20, 21, 24, 165])
  (.cond (.t 165) (.seq (.reg [B 6 (.asg (.k (.c (.int .i64 3)))), B 7 (.asg (.k (.c (.bool false))))] [6, 7])
  .ret)
  .skip))
  (.seq (.reg [B 167 (.load true 6 (.t 24)), B 168 (.call 253 [(.t 167)]), B 166 (.mv (.t 168)), B 169 (.extract 0 (.t 166)), B 170 (.extract 1 (.t 166)), B 26 (.alloc [.int .u8 0, .int .u8 0, .int .u8 0, .int .u8 0, .int .u8 0, .int .u8 0, .int .u8 0, .int .u8 0, .int .u8 0, .int .u8 0, .int .u8 0, .int .u8 0, .int .u8 0, .int .u8 0, .int .u8 0, .int .u8 0, .int .u8 0, .int .u8 0, .int .u8 0, .int .u8 0, .int .u8 0, .int .u8 0, .int .u8 0, .int .u8 0, .int .u8 0, .int .u8 0, .int .u8 0, .int .u8 0, .int .u8 0, .int .u8 0, .int .u8 0, .int .u8 0]), Bn (.store 32 (.t 26) (.t 169)), B 27 (.asg (.t 170))] [0, 1, 2, 8, 19, 20, 21, 24, 26])
  (.seq (.seq (.regd [Oo 171 (.load true 32 (.t 26)), Oo 172 (.mv (.t 21)), Oo 173 (.nilck (.t 172)), Oo 174 (.fadr 11 (.t 173)), Oo 175 (.load true 32 (.t 174)), Oo 176 (.aeq true (true, [.i .u8, .i .u8, .i .u8, .i .u8, .i .u8, .i .u8, .i .u8, .i .u8, .i .u8, .i .u8, .i .u8, .i .u8, .i .u8, .i .u8, .i .u8, .i .u8, .i .u8, .i .u8, .i .u8, .i .u8, .i .u8, .i .u8, .i .u8, .i .u8, .i .u8, .i .u8, .i .u8, .i .u8, .i .u8, .i .u8, .i .u8, .i .u8]) (.t 171) (.t 175))]
    (.fl 0 (.fl 1 (.fl 2 (.fl 3 (.fl 4 (.fl 5 .done)))))) [0, 1, 2, 8, 19, 20, 21, 24, 176])
  (.cond (.t 176) (.seq (.reg [B 6 (.asg (.k (.c (.int .i64 18)))), B 7 (.asg (.k (.c (.bool false))))] [6, 7])
  .ret)
  .skip))
  (.seq (.reg [B 177 (.mv (.t 21)), B 178 (.load true 6 (.t 24)), B 179 (.nilck (.t 177)), B 180 (.fadr 5 (.t 179)), Bn (.store 6 (.t 180) (.t 178))] [0, 1, 2, 8, 19, 20, 21])
  (.reg [B 181 (.mv (.t 21)), B 182 (.nilck (.t 181)), B 183 (.fadr 43 (.t 182)), Bn (.store 1 (.t 183) (.k (.c (.bool false))))] [0, 1, 2, 8, 19, 20]))))))))))))
  (.reg [B 124 (.mv (.t 20)), B 125 (.bin .add (.t 124) (.k (.c (.int .i64 1)))), B 20 (.asg (.t 125))] [0, 1, 2, 8, 19, 20]))))))
  (.seq (.reg [B 184 (.mv (.t 19)), B 6 (.asg (.k (.c (.int .i64 0)))), B 7 (.asg (.t 184))] [6, 7])
  .ret)))))))
def r199 : List ARes := [.tmp 6, .tmp 7]
theorem k199 : bChk Tryz.prog 199 Tryz.f199 3 c199 r199 = true := by kernel_rfl
theorem p199 : Tryz.prog.funcs[199]? = some Tryz.f199 := by kernel_rfl

/-- (*scrivener/scrivenerref12.Journal).shadows -/
def c200 : BCode :=
  (.seq (.reg [B 6 (.asg (.k (.c (.int .i64 0))))] [0, 1, 2])
  (.seq (.seq (.reg [B 7 (.asg (.k (.c (.int .i64 0))))] [0, 1, 2, 7])
  (.block 0 (.loop (.seq (.seq (.reg [B 11 (.mv (.t 7)), B 12 (.mv (.t 2)), B 13 (.len (.t 12)), B 14 (.bin .lt (.t 11) (.t 13))] [0, 1, 2, 7, 14])
  (.cond (.t 14) .skip
  (.exit 0)))
  (.seq (.block 1 (.seq (.reg [B 18 (.mv (.t 1)), B 19 (.mv (.t 2)), B 20 (.mv (.t 7)), B 21 (.iadr 1 (.t 19) (.t 20)), B 22 (.load false 1 (.t 21)), B 23 (.lookup false (false, [.i .i64]) (.agg [.int .i64 0, .int .i64 0, .int .i64 0, .int .u8 0, .int .u8 0, .int .u8 0, .int .u8 0, .int .u8 0, .int .u8 0, .int .u8 0, .int .u8 0, .int .u8 0, .int .u8 0, .int .u8 0, .int .u8 0, .int .u8 0, .int .u8 0, .int .u8 0, .int .u8 0, .int .u8 0, .int .u8 0, .int .u8 0, .int .u8 0, .int .u8 0, .int .u8 0, .int .u8 0, .int .u8 0, .int .u8 0, .int .u8 0, .int .u8 0, .int .u8 0, .int .u8 0, .int .u8 0, .int .u8 0, .int .u8 0, .sl 46 [] .nil]) (.t 18) (.t 22)), B 24 (.call 254 [(.t 23)]), B 17 (.mv (.t 24)), B 25 (.extract 0 (.t 17)), B 26 (.extract 1 (.t 17)), B 8 (.asg (.t 25)), B 9 (.asg (.t 26))] [0, 1, 2, 7, 8, 9])
  (.seq (.seq (.reg [B 27 (.mv (.t 9)), B 28 (.not (.t 27))] [0, 1, 2, 7, 8, 28])
  (.cond (.t 28) (.exit 1)
  .skip))
  (.seq (.reg [B 29 (.mv (.t 0)), B 30 (.mv (.t 2)), B 31 (.mv (.t 7)), B 32 (.iadr 1 (.t 30) (.t 31)), B 33 (.load false 1 (.t 32)), B 34 (.call 252 [(.t 33)]), B 35 (.bin .sadd (.t 34) (.k (.c (.str [126])))), B 36 (.mv (.t 8)), B 37 (.call 255 [(.t 29), (.t 35), (.t 36)]), B 10 (.asg (.t 37))] [0, 1, 2, 7, 10])
  (.seq (.reg [B 38 (.mv (.t 10)), B 39 (.bin .ne (.t 38) (.k (.c (.int .i64 0))))] [0, 1, 2, 7, 10, 39])
  (.cond (.t 39) (.seq (.reg [B 40 (.mv (.t 10)), B 6 (.asg (.t 40))] [6])
  .ret)
  .skip))))))
  (.reg [B 15 (.mv (.t 7)), B 16 (.bin .add (.t 15) (.k (.c (.int .i64 1)))), B 7 (.asg (.t 16))] [0, 1, 2, 7]))))))
  (.seq (.reg [B 6 (.asg (.k (.c (.int .i64 0))))] [6])
  .ret)))
def r200 : List ARes := [.tmp 6]
theorem k200 : bChk Tryz.prog 200 Tryz.f200 3 c200 r200 = true := by kernel_rfl
theorem p200 : Tryz.prog.funcs[200]? = some Tryz.f200 := by kernel_rfl

/-- (*scrivener/scrivenerref12.Journal).settle -/
def c201 : BCode :=
  (.seq (.reg [B 6 (.asg (.k (.c (.int .i64 0))))] [0, 1, 2])
  (.seq (.seq (.reg [B 7 (.asg (.k (.c (.int .i64 0))))] [0, 1, 2, 7])
  (.block 0 (.loop (.seq (.seq (.reg [B 11 (.mv (.t 7)), B 12 (.mv (.t 2)), B 13 (.len (.t 12)), B 14 (.bin .lt (.t 11) (.t 13))] [0, 1, 2, 7, 14])
  (.cond (.t 14) .skip
  (.exit 0)))
  (.seq (.block 1 (.seq (.reg [B 18 (.mv (.t 1)), B 19 (.mv (.t 2)), B 20 (.mv (.t 7)), B 21 (.iadr 1 (.t 19) (.t 20)), B 22 (.load false 1 (.t 21)), B 23 (.lookup false (false, [.i .i64]) (.agg [.int .i64 0, .int .i64 0, .int .i64 0, .int .u8 0, .int .u8 0, .int .u8 0, .int .u8 0, .int .u8 0, .int .u8 0, .int .u8 0, .int .u8 0, .int .u8 0, .int .u8 0, .int .u8 0, .int .u8 0, .int .u8 0, .int .u8 0, .int .u8 0, .int .u8 0, .int .u8 0, .int .u8 0, .int .u8 0, .int .u8 0, .int .u8 0, .int .u8 0, .int .u8 0, .int .u8 0, .int .u8 0, .int .u8 0, .int .u8 0, .int .u8 0, .int .u8 0, .int .u8 0, .int .u8 0, .int .u8 0, .sl 46 [] .nil]) (.t 18) (.t 22)), B 24 (.call 254 [(.t 23)]), B 17 (.mv (.t 24)), B 25 (.extract 0 (.t 17)), B 26 (.extract 1 (.t 17)), B 8 (.asg (.t 25)), B 9 (.asg (.t 26))] [0, 1, 2, 7, 9])
  (.seq (.reg [B 10 (.asg (.k (.c (.int .i64 0))))] [0, 1, 2, 7, 9])
  (.seq (.seq (.reg [B 27 (.mv (.t 9))] [0, 1, 2, 7, 27])
  (.cond (.t 27) (.regd [Oo 28 (.mv (.t 0)), Oo 29 (.nilck (.t 28)), Oo 30 (.fadr 0 (.t 29)), Oo 31 (.load false 1 (.t 30)), Oo 32 (.mv (.t 2)), Oo 33 (.mv (.t 7)), Oo 34 (.iadr 1 (.t 32) (.t 33)), Oo 35 (.load false 1 (.t 34)), Oo 36 (.call 252 [(.t 35)]), Oo 37 (.bin .sadd (.t 36) (.k (.c (.str [126])))), Oo 38 (.mv (.t 2)), Oo 39 (.mv (.t 7)), Oo 40 (.iadr 1 (.t 38) (.t 39)), Oo 41 (.load false 1 (.t 40)), Oo 42 (.call 252 [(.t 41)]), Oo 43 (.call 95 [(.t 31), (.t 37), (.t 42)]), Oo 10 (.asg (.t 43))]
    (.fl 0 (.fl 1 (.fl 2 (.fl 3 (.fl 4 (.fl 5 (.fl 6 (.fl 7 (.fl 10 (.fl 11 (.fl 12 (.fl 13 (.ch 8 [3, 12, 13] (.fl 9 (.ch 14 [3] (.ch 15 [] (.ch 16 [] .done))))))))))))))))) [0, 1, 2, 7, 10])
  (.regd [Oo 44 (.mv (.t 0)), Oo 45 (.nilck (.t 44)), Oo 46 (.fadr 0 (.t 45)), Oo 47 (.load false 1 (.t 46)), Oo 48 (.mv (.t 2)), Oo 49 (.mv (.t 7)), Oo 50 (.iadr 1 (.t 48) (.t 49)), Oo 51 (.load false 1 (.t 50)), Oo 52 (.call 252 [(.t 51)]), Oo 53 (.call 197 [(.t 47), (.t 52)]), Oo 10 (.asg (.t 53))]
    (.fl 0 (.fl 1 (.fl 2 (.fl 3 (.fl 4 (.fl 5 (.fl 6 (.fl 7 (.ch 8 [3] (.ch 9 [] (.ch 10 [] .done))))))))))) [0, 1, 2, 7, 10])))
  (.seq (.seq (.reg [B 54 (.mv (.t 10)), B 55 (.bin .ne (.t 54) (.k (.c (.int .i64 0))))] [0, 1, 2, 7, 10, 55])
  (.cond (.t 55) (.seq (.reg [B 56 (.mv (.t 10)), B 6 (.asg (.t 56))] [6])
  .ret)
  .skip))
  (.regd [Oo 57 (.mv (.t 0)), Oo 58 (.nilck (.t 57)), Oo 59 (.fadr 1 (.t 58)), Oo 60 (.load false 1 (.t 59)), Oo 61 (.mv (.t 2)), Oo 62 (.mv (.t 7)), Oo 63 (.iadr 1 (.t 61) (.t 62)), Oo 64 (.load false 1 (.t 63)), Oo 65 (.mv (.t 1)), Oo 66 (.mv (.t 2)), Oo 67 (.mv (.t 7)), Oo 68 (.iadr 1 (.t 66) (.t 67)), Oo 69 (.load false 1 (.t 68)), Oo 70 (.lookup false (false, [.i .i64]) (.agg [.int .i64 0, .int .i64 0, .int .i64 0, .int .u8 0, .int .u8 0, .int .u8 0, .int .u8 0, .int .u8 0, .int .u8 0, .int .u8 0, .int .u8 0, .int .u8 0, .int .u8 0, .int .u8 0, .int .u8 0, .int .u8 0, .int .u8 0, .int .u8 0, .int .u8 0, .int .u8 0, .int .u8 0, .int .u8 0, .int .u8 0, .int .u8 0, .int .u8 0, .int .u8 0, .int .u8 0, .int .u8 0, .int .u8 0, .int .u8 0, .int .u8 0, .int .u8 0, .int .u8 0, .int .u8 0, .int .u8 0, .sl 46 [] .nil]) (.t 65) (.t 69)), Oo 71 (.iadr 36 (.t 60) (.t 64)), On (.store 36 (.t 71) (.t 70))]
    (.fl 0 (.fl 1 (.fl 2 (.fl 3 (.fl 4 (.fl 5 (.fl 6 (.fl 7 (.fl 8 (.fl 9 (.fl 10 (.fl 11 (.fl 12 (.fl 13 (.fl 14 (.ch 15 [] .done)))))))))))))))) [0, 1, 2, 7]))))))
  (.reg [B 15 (.mv (.t 7)), B 16 (.bin .add (.t 15) (.k (.c (.int .i64 1)))), B 7 (.asg (.t 16))] [0, 1, 2, 7]))))))
  (.seq (.reg [B 6 (.asg (.k (.c (.int .i64 0))))] [6])
  .ret)))
def r201 : List ARes := [.tmp 6]
theorem k201 : bChk Tryz.prog 201 Tryz.f201 3 c201 r201 = true := by kernel_rfl
theorem p201 : Tryz.prog.funcs[201]? = some Tryz.f201 := by kernel_rfl

/-- scrivener/scrivenerref11.in -/
def c202 : BCode :=
  (.seq (.reg [B 6 (.asg (.k (.c (.bool false))))] [0, 1, 2])
  (.seq (.reg [B 7 (.mv (.t 0)), B 8 (.mv (.t 1)), B 9 (.bin .ge (.t 7) (.t 8)), B 10 (.mv (.t 9)), Bg 11 (.mv (.t 0)) 10 true, Bg 12 (.mv (.t 2)) 10 true, Bg 13 (.bin .le (.t 11) (.t 12)) 10 true, B 14 (.pick (.t 10) (.t 13) (.k (.c (.bool false)))), B 6 (.asg (.t 14))] [6])
  .ret))
def r202 : List ARes := [.tmp 6]
theorem k202 : bChk Tryz.prog 202 Tryz.f202 3 c202 r202 = true := by kernel_rfl
theorem p202 : Tryz.prog.funcs[202]? = some Tryz.f202 := by kernel_rfl

/-- scrivener/scrivenerref11.May -/
def c203 : BCode :=
  (.seq (.reg [B 1 (.boxR (.t 0)), B 2 (.asg (.k (.c (.int .i64 0))))] [1])
  (.seq (.seq (.reg [B 5 (.load true 46 (.t 1)), B 6 (.call 256 [(.t 5)]), B 7 (.not (.t 6))] [1, 7])
  (.cond (.t 7) (.seq (.reg [B 2 (.asg (.k (.c (.int .i64 3))))] [2])
  .ret)
  .skip))
  (.seq (.seq (.reg [B 8 (.fadr 0 (.t 1)), B 9 (.load false 1 (.t 8)), B 10 (.bin .ne (.t 9) (.k (.c (.int .i64 2)))), B 11 (.mv (.t 10)), Bg 12 (.fadr 43 (.t 1)) 11 false, Bg 13 (.load false 1 (.t 12)) 11 false, B 14 (.pick (.t 11) (.k (.c (.bool true))) (.t 13))] [1, 14])
  (.cond (.t 14) (.seq (.reg [B 2 (.asg (.k (.c (.int .i64 0))))] [2])
  .ret)
  .skip))
  (.seq (.reg [B 16 (.fadr 5 (.t 1)), B 17 (.load true 6 (.t 16)), B 18 (.call 253 [(.t 17)]), B 15 (.mv (.t 18)), B 19 (.extract 0 (.t 15)), B 20 (.extract 1 (.t 15)), B 3 (.alloc [.int .u8 0, .int .u8 0, .int .u8 0, .int .u8 0, .int .u8 0, .int .u8 0, .int .u8 0, .int .u8 0, .int .u8 0, .int .u8 0, .int .u8 0, .int .u8 0, .int .u8 0, .int .u8 0, .int .u8 0, .int .u8 0, .int .u8 0, .int .u8 0, .int .u8 0, .int .u8 0, .int .u8 0, .int .u8 0, .int .u8 0, .int .u8 0, .int .u8 0, .int .u8 0, .int .u8 0, .int .u8 0, .int .u8 0, .int .u8 0, .int .u8 0, .int .u8 0]), Bn (.store 32 (.t 3) (.t 19)), B 4 (.asg (.t 20))] [1, 3, 4])
  (.seq (.seq (.reg [B 21 (.mv (.t 4)), B 22 (.bin .ne (.t 21) (.k (.c (.int .i64 0))))] [1, 3, 4, 22])
  (.cond (.t 22) (.seq (.reg [B 23 (.mv (.t 4)), B 2 (.asg (.t 23))] [2])
  .ret)
  .skip))
  (.seq (.seq (.reg [B 24 (.load true 32 (.t 3)), B 25 (.fadr 11 (.t 1)), B 26 (.load true 32 (.t 25)), B 27 (.aeq true (true, [.i .u8, .i .u8, .i .u8, .i .u8, .i .u8, .i .u8, .i .u8, .i .u8, .i .u8, .i .u8, .i .u8, .i .u8, .i .u8, .i .u8, .i .u8, .i .u8, .i .u8, .i .u8, .i .u8, .i .u8, .i .u8, .i .u8, .i .u8, .i .u8, .i .u8, .i .u8, .i .u8, .i .u8, .i .u8, .i .u8, .i .u8, .i .u8]) (.t 24) (.t 26))] [27])
  (.cond (.t 27) (.seq (.reg [B 2 (.asg (.k (.c (.int .i64 18))))] [2])
  .ret)
  .skip))
  (.seq (.reg [B 2 (.asg (.k (.c (.int .i64 0))))] [2])
  .ret)))))))
def r203 : List ARes := [.tmp 2]
theorem k203 : bChk Tryz.prog 203 Tryz.f203 1 c203 r203 = true := by kernel_rfl
theorem p203 : Tryz.prog.funcs[203]? = some Tryz.f203 := by kernel_rfl

/-- scrivener/scrivenerref11.bytes -/
def c204 : BCode :=
  (.seq (.reg [B 2 (.boxR (.t 0)), B 4 (.asg (.k (.c (.sl 1 [] .nil))))] [1, 2])
  (.seq (.regd [Oo 10 (.load true 36 (.t 2)), Oo 11 (.call 246 [(.t 10)]), Oo 12 (.fadr 35 (.t 2)), Oo 13 (.load false 1 (.t 12)), Oo 14 (.len (.t 13)), Oo 15 (.conv .u64 (.t 14)), Oo 16 (.call 57 [(.t 15)]), Oo 17 (.app 1 1 (.t 11) (.t 16)), Oo 5 (.asg (.t 17))]
    (.fl 0 (.fl 2 (.fl 3 (.fl 4 (.fl 5 (.ch 1 [3, 4] (.ch 6 [] (.ch 7 [] (.ch 8 [] .done))))))))) [1, 2, 5])
  (.seq (.seq (.reg [B 6 (.asg (.k (.c (.int .i64 0))))] [1, 2, 5, 6])
  (.block 0 (.loop (.seq (.seq (.reg [B 18 (.mv (.t 6)), B 19 (.fadr 35 (.t 2)), B 20 (.load false 1 (.t 19)), B 21 (.len (.t 20)), B 22 (.bin .lt (.t 18) (.t 21))] [1, 2, 5, 6, 22])
  (.cond (.t 22) .skip
  (.exit 0)))
  (.seq (.block 1 (.seq (.reg [B 25 (.fadr 35 (.t 2)), B 26 (.load false 1 (.t 25)), B 27 (.mv (.t 6)), B 28 (.iadr 46 (.t 26) (.t 27)), B 29 (.load true 46 (.t 28)), B 7 (.alloc [.int .i64 0, .str [], .int .i64 0, .int .i64 0, .int .i64 0, .int .i64 0, .int .i64 0, .int .i64 0, .str [], .sl 1 [] .nil, .sl 6 [] .nil, .int .u8 0, .int .u8 0, .int .u8 0, .int .u8 0, .int .u8 0, .int .u8 0, .int .u8 0, .int .u8 0, .int .u8 0, .int .u8 0, .int .u8 0, .int .u8 0, .int .u8 0, .int .u8 0, .int .u8 0, .int .u8 0, .int .u8 0, .int .u8 0, .int .u8 0, .int .u8 0, .int .u8 0, .int .u8 0, .int .u8 0, .int .u8 0, .int .u8 0, .int .u8 0, .int .u8 0, .int .u8 0, .int .u8 0, .int .u8 0, .int .u8 0, .int .u8 0, .bool false, .int .i64 0, .int .i64 0]), Bn (.store 46 (.t 7) (.t 29))] [1, 2, 5, 6, 7])
  (.seq (.reg [B 30 (.mv (.t 5)), B 31 (.load true 46 (.t 7)), B 32 (.call 245 [(.t 31)]), B 33 (.app 1 1 (.t 30) (.t 32)), B 5 (.asg (.t 33))] [1, 2, 5, 6, 7])
  (.seq (.seq (.reg [B 34 (.fadr 0 (.t 7)), B 35 (.load false 1 (.t 34)), B 36 (.bin .ne (.t 35) (.k (.c (.int .i64 2))))] [1, 2, 5, 6, 7, 36])
  (.cond (.t 36) (.exit 1)
  .skip))
  (.seq (.seq (.reg [B 37 (.fadr 43 (.t 7)), B 38 (.load false 1 (.t 37)), B 39 (.mv (.t 38)), Bg 40 (.mv (.t 1)) 39 false, Bg 41 (.not (.t 40)) 39 false, B 42 (.pick (.t 39) (.k (.c (.bool true))) (.t 41))] [1, 2, 5, 6, 7, 42])
  (.cond (.t 42) (.seq (.reg [B 43 (.mv (.t 5)), B 44 (.slR 1 1 [.int .u8 0] [(0, 1, (.k (.c (.int .u8 0))))]), B 45 (.app 1 1 (.t 43) (.t 44)), B 5 (.asg (.t 45))] [1, 2, 5, 6])
  (.exit 1))
  .skip))
  (.seq (.reg [B 47 (.fadr 5 (.t 7)), B 48 (.load true 6 (.t 47)), B 49 (.call 58 [(.t 48)]), B 46 (.mv (.t 49)), B 50 (.extract 0 (.t 46)), B 51 (.extract 1 (.t 46)), B 8 (.asg (.t 50)), B 9 (.asg (.t 51))] [1, 2, 5, 6, 8])
  (.seq (.reg [B 52 (.mv (.t 5)), B 53 (.slR 1 1 [.int .u8 0] [(0, 1, (.k (.c (.int .u8 1))))]), B 54 (.app 1 1 (.t 52) (.t 53)), B 5 (.asg (.t 54))] [1, 2, 5, 6, 8])
  (.seq (.reg [B 55 (.mv (.t 5)), B 56 (.mv (.t 8)), B 57 (.len (.t 56)), B 58 (.conv .u64 (.t 57)), B 59 (.call 57 [(.t 58)]), B 60 (.app 1 1 (.t 55) (.t 59)), B 5 (.asg (.t 60))] [1, 2, 5, 6, 8])
  (.reg [B 61 (.mv (.t 5)), B 62 (.mv (.t 8)), B 63 (.app 1 1 (.t 61) (.t 62)), B 5 (.asg (.t 63))] [1, 2, 5, 6])))))))))
  (.reg [B 23 (.mv (.t 6)), B 24 (.bin .add (.t 23) (.k (.c (.int .i64 1)))), B 6 (.asg (.t 24))] [1, 2, 5, 6]))))))
  (.seq (.reg [B 64 (.mv (.t 5)), B 4 (.asg (.t 64))] [4])
  .ret))))
def r204 : List ARes := [.tmp 4]
theorem k204 : bChk Tryz.prog 204 Tryz.f204 2 c204 r204 = true := by kernel_rfl
theorem p204 : Tryz.prog.funcs[204]? = some Tryz.f204 := by kernel_rfl

/-- (*scrivener/scrivenerref14.Catalog).Apply -/
def c205 : BCode :=
  (.seq (.reg [B 3 (.boxR (.t 1)), B 4 (.asg (.k (.c (.int .i64 0))))] [0, 3])
  (.seq (.seq (.reg [B 9 (.fadr 0 (.t 3)), B 10 (.load false 1 (.t 9))] [0, 3, 10])
  (.block 0 (.seq (.reg [B 12 (.bin .eq (.t 10) (.k (.c (.int .i64 5)))), B 11 (.asg (.t 12))] [0, 3, 10, 11])
  (.cond (.t 11) (.seq (.seq (.reg [B 13 (.mv (.t 0)), B 14 (.nilck (.t 13)), B 15 (.fadr 0 (.t 14)), B 16 (.load false 1 (.t 15)), B 17 (.len (.t 16)), B 18 (.bin .ge (.t 17) (.k (.c (.int .i64 64))))] [0, 3, 18])
  (.cond (.t 18) (.seq (.reg [B 4 (.asg (.k (.c (.int .i64 17))))] [4])
  .ret)
  .skip))
  (.seq (.seq (.regd [Oo 19 (.fadr 2 (.t 3)), Oo 20 (.load false 1 (.t 19)), Oo 21 (.mv (.t 0)), Oo 22 (.nilck (.t 21)), Oo 23 (.fadr 0 (.t 22)), Oo 24 (.load false 1 (.t 23)), Oo 25 (.len (.t 24)), Oo 26 (.bin .add (.t 25) (.k (.c (.int .i64 1)))), Oo 27 (.bin .ne (.t 20) (.t 26)), Oo 28 (.mv (.t 27)), Og 29 (.fadr 1 (.t 3)) 28 false, Og 30 (.load false 1 (.t 29)) 28 false, Og 31 (.call 257 [(.t 30)]) 28 false, Og 32 (.not (.t 31)) 28 false, Oo 33 (.pick (.t 28) (.k (.c (.bool true))) (.t 32))]
    (.fl 0 (.fl 1 (.fl 2 (.fl 3 (.fl 4 (.fl 5 (.fl 6 (.fl 7 (.fl 8 (.fl 9 (.fl 10 (.fl 11 (.ch 12 [] (.fl 13 (.fl 14 .done))))))))))))))) [0, 3, 33])
  (.cond (.t 33) (.seq (.reg [B 4 (.asg (.k (.c (.int .i64 3))))] [4])
  .ret)
  .skip))
  (.seq (.reg [B 35 (.mv (.t 0)), B 36 (.fadr 1 (.t 3)), B 37 (.load false 1 (.t 36)), B 38 (.call 236 [(.t 35), (.t 37)]), B 34 (.mv (.t 38)), B 39 (.extract 0 (.t 34)), B 40 (.extract 1 (.t 34)), B 5 (.alloc [.int .i64 0, .str [], .bool false, .sl 1 [] .nil]), Bn (.store 4 (.t 5) (.t 39)), B 6 (.asg (.t 40))] [0, 3, 6])
  (.seq (.seq (.reg [B 41 (.mv (.t 6)), B 42 (.bin .eq (.t 41) (.k (.c (.int .i64 0))))] [0, 3, 42])
  (.cond (.t 42) (.seq (.reg [B 4 (.asg (.k (.c (.int .i64 8))))] [4])
  .ret)
  .skip))
  (.regd [Oo 43 (.mv (.t 0)), Oo 44 (.slE 4), Oo 45 (.mv (.t 0)), Oo 46 (.nilck (.t 45)), Oo 47 (.fadr 0 (.t 46)), Oo 48 (.load false 1 (.t 47)), Oo 49 (.app 4 56 (.t 44) (.t 48)), Oo 50 (.fadr 2 (.t 3)), Oo 51 (.load false 1 (.t 50)), Oo 52 (.fadr 1 (.t 3)), Oo 53 (.load false 1 (.t 52)), Oo 54 (.build [.int .i64 0, .str [], .bool false, .sl 1 [] .nil] [(0, 1, (.t 51)), (1, 1, (.t 53))]), Oo 55 (.slR 4 1 [.int .i64 0, .str [], .bool false, .sl 1 [] .nil] [(0, 4, (.t 54))]), Oo 56 (.app 4 56 (.t 49) (.t 55)), Oo 57 (.nilck (.t 43)), Oo 58 (.fadr 0 (.t 57)), On (.store 1 (.t 58) (.t 56))]
    (.fl 0 (.fl 1 (.fl 2 (.fl 3 (.fl 4 (.fl 5 (.fl 7 (.fl 8 (.fl 9 (.fl 10 (.fl 11 (.fl 12 (.ch 6 [8, 10] (.ch 13 [] (.fl 14 (.fl 15 (.ch 16 [] .done))))))))))))))))) [])))))
  (.seq (.reg [B 60 (.bin .eq (.t 10) (.k (.c (.int .i64 6)))), B 59 (.asg (.t 60))] [0, 3, 10, 59])
  (.cond (.t 59) (.seq (.reg [B 61 (.mv (.t 0)), B 62 (.fadr 2 (.t 3)), B 63 (.load false 1 (.t 62)), B 64 (.call 258 [(.t 61), (.t 63)]), B 7 (.asg (.t 64))] [7])
  (.seq (.seq (.reg [B 65 (.mv (.t 7)), B 66 (.bin .eqnil (.t 65) (.k (.c (.nilp))))] [7, 66])
  (.cond (.t 66) (.seq (.reg [B 4 (.asg (.k (.c (.int .i64 7))))] [4])
  .ret)
  .skip))
  (.seq (.reg [B 67 (.mv (.t 7)), B 68 (.nilck (.t 67)), B 69 (.fadr 2 (.t 68)), Bn (.store 1 (.t 69) (.k (.c (.bool true))))] [7])
  (.reg [B 70 (.mv (.t 7)), B 71 (.nilck (.t 70)), B 72 (.fadr 3 (.t 71)), Bn (.store 1 (.t 72) (.k (.c (.sl 1 [] .nil))))] []))))
  (.seq (.reg [B 74 (.bin .eq (.t 10) (.k (.c (.int .i64 7)))), B 73 (.asg (.t 74))] [0, 3, 73])
  (.cond (.t 73) (.seq (.reg [B 75 (.mv (.t 0)), B 76 (.fadr 2 (.t 3)), B 77 (.load false 1 (.t 76)), B 78 (.call 258 [(.t 75), (.t 77)]), B 8 (.asg (.t 78))] [0, 3, 8])
  (.seq (.seq (.reg [B 79 (.mv (.t 8)), B 80 (.bin .eqnil (.t 79) (.k (.c (.nilp))))] [0, 3, 8, 80])
  (.cond (.t 80) (.seq (.reg [B 4 (.asg (.k (.c (.int .i64 7))))] [4])
  .ret)
  .skip))
  (.seq (.seq (.reg [B 81 (.fadr 1 (.t 3)), B 82 (.load false 1 (.t 81)), B 83 (.call 257 [(.t 82)]), B 84 (.not (.t 83))] [0, 3, 8, 84])
  (.cond (.t 84) (.seq (.reg [B 4 (.asg (.k (.c (.int .i64 3))))] [4])
  .ret)
  .skip))
  (.seq (.seq (.reg [B 85 (.mv (.t 0)), B 86 (.fadr 2 (.t 3)), B 87 (.load false 1 (.t 86)), B 88 (.fadr 1 (.t 3)), B 89 (.load false 1 (.t 88)), B 90 (.call 259 [(.t 85), (.t 87), (.t 89)])] [3, 8, 90])
  (.cond (.t 90) (.seq (.reg [B 4 (.asg (.k (.c (.int .i64 8))))] [4])
  .ret)
  .skip))
  (.seq (.seq (.reg [B 91 (.mv (.t 8)), B 92 (.nilck (.t 91)), B 93 (.fadr 3 (.t 92)), B 94 (.load false 1 (.t 93)), B 95 (.len (.t 94)), B 96 (.bin .ge (.t 95) (.k (.c (.int .i64 16))))] [3, 8, 96])
  (.cond (.t 96) (.seq (.reg [B 4 (.asg (.k (.c (.int .i64 17))))] [4])
  .ret)
  .skip))
  (.regd [Oo 97 (.mv (.t 8)), Oo 98 (.slE 1), Oo 99 (.mv (.t 8)), Oo 100 (.nilck (.t 99)), Oo 101 (.fadr 3 (.t 100)), Oo 102 (.load false 1 (.t 101)), Oo 103 (.app 1 16 (.t 98) (.t 102)), Oo 104 (.fadr 1 (.t 3)), Oo 105 (.load false 1 (.t 104)), Oo 106 (.slR 1 1 [.str []] [(0, 1, (.t 105))]), Oo 107 (.app 1 16 (.t 103) (.t 106)), Oo 108 (.nilck (.t 97)), Oo 109 (.fadr 3 (.t 108)), On (.store 1 (.t 109) (.t 107))]
    (.fl 0 (.fl 1 (.fl 2 (.fl 3 (.fl 4 (.fl 5 (.fl 7 (.fl 8 (.fl 9 (.ch 6 [8] (.ch 10 [] (.fl 11 (.fl 12 (.ch 13 [] .done)))))))))))))) []))))))
  .skip))))))))
  (.seq (.reg [B 4 (.asg (.k (.c (.int .i64 0))))] [4])
  .ret)))
def r205 : List ARes := [.tmp 4]
theorem k205 : bChk Tryz.prog 205 Tryz.f205 2 c205 r205 = true := by kernel_rfl
theorem p205 : Tryz.prog.funcs[205]? = some Tryz.f205 := by kernel_rfl

/-- (*scrivener/scrivenerref14.Catalog).Table -/
def c206 : BCode :=
  (.seq (.reg [B 4 (.alloc [.int .i64 0, .str [], .bool false, .sl 1 [] .nil]), B 5 (.asg (.k (.c (.int .i64 0))))] [0, 1, 4])
  (.seq (.seq (.reg [B 6 (.mv (.t 1)), B 7 (.bin .lt (.t 6) (.k (.c (.int .i64 1)))), B 8 (.mv (.t 7)), Bg 9 (.mv (.t 1)) 8 false, Bg 10 (.mv (.t 0)) 8 false, Bg 11 (.nilck (.t 10)) 8 false, Bg 12 (.fadr 0 (.t 11)) 8 false, Bg 13 (.load false 1 (.t 12)) 8 false, Bg 14 (.len (.t 13)) 8 false, Bg 15 (.bin .gt (.t 9) (.t 14)) 8 false, B 16 (.pick (.t 8) (.k (.c (.bool true))) (.t 15))] [0, 1, 4, 16])
  (.cond (.t 16) (.seq (.reg [B 17 (.build [.int .i64 0, .str [], .bool false, .sl 1 [] .nil] []), Bn (.store 4 (.t 4) (.t 17)), B 5 (.asg (.k (.c (.int .i64 7))))] [4, 5])
  .ret)
  .skip))
  (.seq (.reg [B 18 (.mv (.t 0)), B 19 (.nilck (.t 18)), B 20 (.fadr 0 (.t 19)), B 21 (.load false 1 (.t 20)), B 22 (.mv (.t 1)), B 23 (.bin .sub (.t 22) (.k (.c (.int .i64 1)))), B 24 (.iadr 4 (.t 21) (.t 23)), B 25 (.load true 4 (.t 24)), Bn (.store 4 (.t 4) (.t 25)), B 5 (.asg (.k (.c (.int .i64 0))))] [4, 5])
  .ret)))
def r206 : List ARes := [.cell 4 true 4, .tmp 5]
theorem k206 : bChk Tryz.prog 206 Tryz.f206 2 c206 r206 = true := by kernel_rfl
theorem p206 : Tryz.prog.funcs[206]? = some Tryz.f206 := by kernel_rfl

/-- (*scrivener/scrivenerref15.Views).Next -/
def c207 : BCode :=
  (.seq (.reg [B 4 (.asg (.k (.c (.int .i64 0))))] [0, 1])
  (.seq (.reg [B 10 (.mv (.t 0)), B 11 (.nilck (.t 10)), B 12 (.fadr 0 (.t 11)), B 13 (.load false 1 (.t 12)), B 14 (.mv (.t 1)), B 15 (.call 206 [(.t 13), (.t 14)]), B 9 (.mv (.t 15)), B 16 (.extract 0 (.t 9)), B 17 (.extract 1 (.t 9)), B 5 (.alloc [.int .i64 0, .str [], .bool false, .sl 1 [] .nil]), Bn (.store 4 (.t 5) (.t 16)), B 6 (.asg (.t 17))] [0, 1, 6])
  (.seq (.seq (.reg [B 18 (.mv (.t 6)), B 19 (.bin .ne (.t 18) (.k (.c (.int .i64 0))))] [0, 1, 19])
  (.cond (.t 19) (.seq (.reg [B 4 (.asg (.k (.c (.int .i64 0))))] [4])
  .ret)
  .skip))
  (.seq (.reg [B 7 (.asg (.k (.c (.int .i64 1))))] [0, 1, 7])
  (.seq (.seq (.reg [B 8 (.asg (.k (.c (.int .i64 0))))] [0, 1, 7, 8])
  (.block 0 (.loop (.seq (.seq (.reg [B 20 (.mv (.t 8)), B 21 (.mv (.t 0)), B 22 (.nilck (.t 21)), B 23 (.fadr 1 (.t 22)), B 24 (.load false 1 (.t 23)), B 25 (.len (.t 24)), B 26 (.bin .lt (.t 20) (.t 25))] [0, 1, 7, 8, 26])
  (.cond (.t 26) .skip
  (.exit 0)))
  (.seq (.block 1 (.seq (.reg [B 29 (.mv (.t 0)), B 30 (.nilck (.t 29)), B 31 (.fadr 1 (.t 30)), B 32 (.load false 1 (.t 31)), B 33 (.mv (.t 8)), B 34 (.iadr 14 (.t 32) (.t 33)), B 35 (.fadr 0 (.t 34)), B 36 (.load false 1 (.t 35)), B 37 (.mv (.t 1)), B 38 (.bin .eq (.t 36) (.t 37)), B 39 (.mv (.t 38)), Bg 40 (.mv (.t 0)) 39 true, Bg 41 (.nilck (.t 40)) 39 true, Bg 42 (.fadr 1 (.t 41)) 39 true, Bg 43 (.load false 1 (.t 42)) 39 true, Bg 44 (.mv (.t 8)) 39 true, Bg 45 (.iadr 14 (.t 43) (.t 44)) 39 true, Bg 46 (.fadr 2 (.t 45)) 39 true, Bg 47 (.load false 1 (.t 46)) 39 true, Bg 48 (.bin .eq (.t 47) (.k (.c (.int .i64 0)))) 39 true, B 49 (.pick (.t 39) (.t 48) (.k (.c (.bool false))))] [0, 1, 7, 8, 49])
  (.cond (.t 49) (.reg [B 50 (.mv (.t 7)), B 51 (.bin .add (.t 50) (.k (.c (.int .i64 1)))), B 7 (.asg (.t 51))] [0, 1, 7, 8])
  .skip)))
  (.reg [B 27 (.mv (.t 8)), B 28 (.bin .add (.t 27) (.k (.c (.int .i64 1)))), B 8 (.asg (.t 28))] [0, 1, 7, 8]))))))
  (.seq (.reg [B 52 (.mv (.t 7)), B 4 (.asg (.t 52))] [4])
  .ret))))))
def r207 : List ARes := [.tmp 4]
theorem k207 : bChk Tryz.prog 207 Tryz.f207 2 c207 r207 = true := by kernel_rfl
theorem p207 : Tryz.prog.funcs[207]? = some Tryz.f207 := by kernel_rfl

/-- (*scrivener/scrivenerref15.Views).last -/
def c208 : BCode :=
  (.seq (.reg [B 6 (.asg (.k (.c (.int .i64 0))))] [0, 1, 2])
  (.seq (.seq (.reg [B 8 (.mv (.t 0)), B 9 (.nilck (.t 8)), B 10 (.fadr 1 (.t 9)), B 11 (.load false 1 (.t 10)), B 12 (.len (.t 11)), B 13 (.bin .sub (.t 12) (.k (.c (.int .i64 1)))), B 7 (.asg (.t 13))] [0, 1, 2, 7])
  (.block 0 (.loop (.seq (.seq (.reg [B 14 (.mv (.t 7)), B 15 (.bin .ge (.t 14) (.k (.c (.int .i64 0))))] [0, 1, 2, 7, 15])
  (.cond (.t 15) .skip
  (.exit 0)))
  (.seq (.block 1 (.seq (.reg [B 18 (.mv (.t 0)), B 19 (.nilck (.t 18)), B 20 (.fadr 1 (.t 19)), B 21 (.load false 1 (.t 20)), B 22 (.mv (.t 7)), B 23 (.iadr 14 (.t 21) (.t 22)), B 24 (.fadr 0 (.t 23)), B 25 (.load false 1 (.t 24)), B 26 (.mv (.t 1)), B 27 (.bin .eq (.t 25) (.t 26)), B 28 (.mv (.t 27)), Bg 29 (.mv (.t 0)) 28 true, Bg 30 (.nilck (.t 29)) 28 true, Bg 31 (.fadr 1 (.t 30)) 28 true, Bg 32 (.load false 1 (.t 31)) 28 true, Bg 33 (.mv (.t 7)) 28 true, Bg 34 (.iadr 14 (.t 32) (.t 33)) 28 true, Bg 35 (.fadr 1 (.t 34)) 28 true, Bg 36 (.load false 1 (.t 35)) 28 true, Bg 37 (.mv (.t 2)) 28 true, Bg 38 (.bin .eq (.t 36) (.t 37)) 28 true, B 39 (.pick (.t 28) (.t 38) (.k (.c (.bool false))))] [0, 1, 2, 7, 39])
  (.cond (.t 39) (.seq (.reg [B 40 (.mv (.t 7)), B 6 (.asg (.t 40))] [6])
  .ret)
  .skip)))
  (.reg [B 16 (.mv (.t 7)), B 17 (.bin .sub (.t 16) (.k (.c (.int .i64 1)))), B 7 (.asg (.t 17))] [0, 1, 2, 7]))))))
  (.seq (.reg [B 6 (.asg (.k (.c (.int .i64 (-1)))))] [6])
  .ret)))
def r208 : List ARes := [.tmp 6]
theorem k208 : bChk Tryz.prog 208 Tryz.f208 3 c208 r208 = true := by kernel_rfl
theorem p208 : Tryz.prog.funcs[208]? = some Tryz.f208 := by kernel_rfl

/-- scrivener/value.check -/
def c209 : BCode :=
  (.seq (.reg [B 2 (.boxR (.t 0)), B 4 (.asg (.k (.c (.int .i64 0))))] [1, 2])
  (.seq (.seq (.reg [B 9 (.mv (.t 1)), B 10 (.bin .gt (.t 9) (.k (.c (.int .i64 16))))] [1, 2, 10])
  (.cond (.t 10) (.seq (.reg [B 4 (.asg (.k (.c (.int .i64 9))))] [4])
  .ret)
  .skip))
  (.seq (.seq (.reg [B 11 (.load true 6 (.t 2)), B 12 (.call 260 [(.t 11)]), B 5 (.asg (.t 12))] [1, 2, 5])
  (.seq (.reg [B 13 (.mv (.t 5)), B 14 (.bin .ne (.t 13) (.k (.c (.int .i64 0))))] [1, 2, 5, 14])
  (.cond (.t 14) (.seq (.reg [B 15 (.mv (.t 5)), B 4 (.asg (.t 15))] [4])
  .ret)
  .skip)))
  (.seq (.seq (.reg [B 16 (.fadr 5 (.t 2)), B 17 (.load false 1 (.t 16)), B 18 (.len (.t 17)), B 19 (.mv (.k (.c (.int .i64 0))))] [1, 17, 18, 19])
  (.block 0 (.loop (.seq (.reg [B 20 (.bin .lt (.t 19) (.t 18))] [1, 17, 18, 19, 20])
  (.seq (.cond (.t 20) .skip
  (.exit 0))
  (.seq (.block 1 (.seq (.reg [B 21 (.iadr 6 (.t 17) (.t 19)), B 22 (.load true 6 (.t 21)), B 7 (.alloc [.int .i64 0, .int .i64 0, .int .i64 0, .str [], .sl 1 [] .nil, .sl 6 [] .nil]), Bn (.store 6 (.t 7) (.t 22))] [1, 7, 17, 18, 19])
  (.seq (.reg [B 23 (.load true 6 (.t 7)), B 24 (.mv (.t 1)), B 25 (.bin .add (.t 24) (.k (.c (.int .i64 1)))), B 26 (.call 209 [(.t 23), (.t 25)]), B 8 (.asg (.t 26))] [1, 8, 17, 18, 19])
  (.seq (.reg [B 27 (.mv (.t 8)), B 28 (.bin .ne (.t 27) (.k (.c (.int .i64 0))))] [1, 8, 17, 18, 19, 28])
  (.cond (.t 28) (.seq (.reg [B 29 (.mv (.t 8)), B 4 (.asg (.t 29))] [4])
  .ret)
  .skip)))))
  (.reg [B 30 (.bin .add (.t 19) (.k (.c (.int .i64 1)))), B 19 (.mv (.t 30))] [1, 17, 18, 19])))))))
  (.seq (.reg [B 4 (.asg (.k (.c (.int .i64 0))))] [4])
  .ret)))))
def r209 : List ARes := [.tmp 4]
theorem k209 : bChk Tryz.prog 209 Tryz.f209 2 c209 r209 = true := by kernel_rfl
theorem p209 : Tryz.prog.funcs[209]? = some Tryz.f209 := by kernel_rfl

/-- scrivener/codec.lay$1 -/
def c210 : BCode :=
  (.regd [Oo 3 (.load false 1 (.t 1)), Oo 4 (.mv (.t 0)), Oo 5 (.call 96 [(.t 4)]), Oo 6 (.app 1 1 (.t 3) (.t 5)), On (.store 1 (.t 1) (.t 6))]
    (.fl 0 (.fl 1 (.ch 2 [0] (.ch 3 [] (.ch 4 [] .done))))) [])
def r210 : List ARes := []
theorem k210 : bChk Tryz.prog 210 Tryz.f210 2 c210 r210 = true := by kernel_rfl
theorem p210 : Tryz.prog.funcs[210]? = some Tryz.f210 := by kernel_rfl

/-- (*scrivener/codec.reader).value -/
def c211 : BCode :=
  (.seq (.reg [B 4 (.alloc [.int .i64 0, .int .i64 0, .int .i64 0, .str [], .sl 1 [] .nil, .sl 6 [] .nil])] [0, 1, 4])
  (.seq (.seq (.reg [B 5 (.mv (.t 1)), B 6 (.bin .gt (.t 5) (.k (.c (.int .i64 16))))] [0, 1, 4, 6])
  (.cond (.t 6) (.seq (.reg [B 7 (.mv (.t 0)), B 8 (.call 212 [(.t 7), (.k (.c (.int .i64 9)))])] [4])
  (.seq (.reg [B 9 (.load true 6 (.t 4)), Bn (.store 6 (.t 4) (.t 9))] [4])
  .ret))
  .skip))
  (.seq (.reg [B 10 (.mv (.t 0)), B 11 (.call 261 [(.t 10)]), B 12 (.conv .i64 (.t 11)), B 13 (.fadr 0 (.t 4)), Bn (.store 1 (.t 13) (.t 12))] [0, 1, 4])
  (.seq (.seq (.reg [B 14 (.fadr 0 (.t 4)), B 15 (.load false 1 (.t 14))] [0, 1, 4, 15])
  (.block 0 (.seq (.reg [B 19 (.bin .eq (.t 15) (.k (.c (.int .i64 1)))), B 18 (.asg (.t 19))] [0, 1, 4, 15, 18])
  (.cond (.t 18) .skip
  (.seq (.reg [B 21 (.bin .eq (.t 15) (.k (.c (.int .i64 2)))), B 20 (.asg (.t 21))] [0, 1, 4, 15, 20])
  (.cond (.t 20) (.seq (.reg [B 22 (.mv (.t 0)), B 23 (.call 261 [(.t 22)]), B 24 (.conv .i64 (.t 23)), B 25 (.fadr 1 (.t 4)), Bn (.store 1 (.t 25) (.t 24))] [0, 4])
  (.seq (.reg [B 26 (.fadr 1 (.t 4)), B 27 (.load false 1 (.t 26)), B 28 (.bin .gt (.t 27) (.k (.c (.int .i64 1))))] [0, 4, 28])
  (.cond (.t 28) (.reg [B 29 (.mv (.t 0)), B 30 (.call 212 [(.t 29), (.k (.c (.int .i64 3)))])] [4])
  .skip)))
  (.seq (.reg [B 32 (.bin .eq (.t 15) (.k (.c (.int .i64 3)))), B 31 (.asg (.t 32))] [0, 1, 4, 15, 31])
  (.cond (.t 31) (.reg [B 33 (.mv (.t 0)), B 34 (.call 262 [(.t 33)]), B 35 (.call 109 [(.t 34)]), B 36 (.fadr 1 (.t 4)), Bn (.store 1 (.t 36) (.t 35))] [4])
  (.seq (.reg [B 38 (.bin .eq (.t 15) (.k (.c (.int .i64 4)))), B 37 (.asg (.t 38))] [0, 1, 4, 15, 37])
  (.cond (.t 37) (.seq (.reg [B 39 (.mv (.t 0)), B 40 (.call 262 [(.t 39)]), B 41 (.call 109 [(.t 40)]), B 42 (.fadr 1 (.t 4)), Bn (.store 1 (.t 42) (.t 41))] [0, 4])
  (.reg [B 43 (.mv (.t 0)), B 44 (.call 261 [(.t 43)]), B 45 (.conv .i64 (.t 44)), B 46 (.fadr 2 (.t 4)), Bn (.store 1 (.t 46) (.t 45))] [4]))
  (.seq (.reg [B 48 (.bin .eq (.t 15) (.k (.c (.int .i64 5)))), B 47 (.asg (.t 48))] [0, 1, 4, 15, 47])
  (.cond (.t 47) (.reg [B 49 (.mv (.t 0)), B 50 (.call 262 [(.t 49)]), B 51 (.conv .i64 (.t 50)), B 52 (.fadr 1 (.t 4)), Bn (.store 1 (.t 52) (.t 51))] [4])
  (.seq (.seq (.reg [B 54 (.bin .eq (.t 15) (.k (.c (.int .i64 6)))), B 53 (.asg (.t 54))] [0, 1, 4, 15, 53])
  (.cond (.t 53) .skip
  (.reg [B 55 (.bin .eq (.t 15) (.k (.c (.int .i64 7)))), B 53 (.asg (.t 55))] [0, 1, 4, 15, 53])))
  (.cond (.t 53) (.reg [B 56 (.mv (.t 0)), B 57 (.call 263 [(.t 56)]), B 58 (.fadr 3 (.t 4)), Bn (.store 1 (.t 58) (.t 57))] [4])
  (.seq (.seq (.reg [B 60 (.bin .eq (.t 15) (.k (.c (.int .i64 8)))), B 59 (.asg (.t 60))] [0, 1, 4, 15, 59])
  (.cond (.t 59) .skip
  (.reg [B 61 (.bin .eq (.t 15) (.k (.c (.int .i64 9)))), B 59 (.asg (.t 61))] [0, 1, 4, 59])))
  (.cond (.t 59) (.seq (.reg [B 62 (.mv (.t 0)), B 63 (.call 264 [(.t 62)]), B 64 (.mv (.k (.c (.int .i64 0))))] [0, 1, 4, 63, 64])
  (.block 1 (.loop (.seq (.reg [B 65 (.bin .lt (.t 64) (.t 63))] [0, 1, 4, 63, 64, 65])
  (.seq (.cond (.t 65) .skip
  (.exit 1))
  (.seq (.block 2 (.seq (.seq (.reg [B 66 (.mv (.t 0)), B 67 (.nilck (.t 66)), B 68 (.fadr 1 (.t 67)), B 69 (.load false 1 (.t 68)), B 70 (.bin .ne (.t 69) (.k (.c (.int .i64 0))))] [0, 1, 4, 63, 64, 70])
  (.cond (.t 70) (.exit 1)
  .skip))
  (.seq (.seq (.reg [B 71 (.fadr 0 (.t 4)), B 72 (.load false 1 (.t 71)), B 73 (.bin .eq (.t 72) (.k (.c (.int .i64 9))))] [0, 1, 4, 63, 64, 73])
  (.cond (.t 73) (.regd [Oo 74 (.fadr 4 (.t 4)), Oo 75 (.load false 1 (.t 74)), Oo 76 (.mv (.t 0)), Oo 77 (.call 263 [(.t 76)]), Oo 78 (.slR 1 1 [.str []] [(0, 1, (.t 77))]), Oo 79 (.app 1 16 (.t 75) (.t 78)), Oo 80 (.fadr 4 (.t 4)), On (.store 1 (.t 80) (.t 79))]
    (.fl 0 (.fl 1 (.fl 2 (.ch 3 [1] (.fl 4 (.ch 5 [] (.fl 6 (.ch 7 [] .done)))))))) [0, 1, 4, 63, 64])
  .skip))
  (.seq (.reg [B 81 (.mv (.t 0)), B 82 (.nilck (.t 81)), B 83 (.fadr 1 (.t 82)), B 84 (.load false 1 (.t 83)), B 85 (.bin .eq (.t 84) (.k (.c (.int .i64 0))))] [0, 1, 4, 63, 64, 85])
  (.cond (.t 85) (.regd [Oo 86 (.fadr 5 (.t 4)), Oo 87 (.load false 1 (.t 86)), Oo 88 (.mv (.t 0)), Oo 89 (.mv (.t 1)), Oo 90 (.bin .add (.t 89) (.k (.c (.int .i64 1)))), Oo 91 (.call 211 [(.t 88), (.t 90)]), Oo 92 (.slR 6 1 [.int .i64 0, .int .i64 0, .int .i64 0, .str [], .sl 1 [] .nil, .sl 6 [] .nil] [(0, 6, (.t 91))]), Oo 93 (.app 6 88 (.t 87) (.t 92)), Oo 94 (.fadr 5 (.t 4)), On (.store 1 (.t 94) (.t 93))]
    (.fl 0 (.fl 1 (.fl 2 (.fl 3 (.fl 4 (.ch 5 [1] (.fl 6 (.ch 7 [] (.fl 8 (.ch 9 [] .done)))))))))) [0, 1, 4, 63, 64])
  .skip)))))
  (.reg [B 95 (.bin .add (.t 64) (.k (.c (.int .i64 1)))), B 64 (.mv (.t 95))] [0, 1, 4, 63, 64])))))))
  (.reg [B 16 (.mv (.t 0)), B 17 (.call 212 [(.t 16), (.k (.c (.int .i64 3)))])] [4])))))))))))))))))
  (.seq (.reg [B 96 (.load true 6 (.t 4)), Bn (.store 6 (.t 4) (.t 96))] [4])
  .ret)))))
def r211 : List ARes := [.cell 4 true 6]
theorem k211 : bChk Tryz.prog 211 Tryz.f211 2 c211 r211 = true := by kernel_rfl
theorem p211 : Tryz.prog.funcs[211]? = some Tryz.f211 := by kernel_rfl

/-- (*scrivener/codec.reader).fail -/
def c212 : BCode :=
  (.seq (.reg [B 4 (.mv (.t 0)), B 5 (.nilck (.t 4)), B 6 (.fadr 1 (.t 5)), B 7 (.load false 1 (.t 6)), B 8 (.bin .eq (.t 7) (.k (.c (.int .i64 0))))] [0, 1, 8])
  (.cond (.t 8) (.reg [B 9 (.mv (.t 0)), B 10 (.mv (.t 1)), B 11 (.nilck (.t 9)), B 12 (.fadr 1 (.t 11)), Bn (.store 1 (.t 12) (.t 10))] [])
  .skip))
def r212 : List ARes := []
theorem k212 : bChk Tryz.prog 212 Tryz.f212 2 c212 r212 = true := by kernel_rfl
theorem p212 : Tryz.prog.funcs[212]? = some Tryz.f212 := by kernel_rfl

/-- scrivener/digest.numbers -/
def c213 : BCode :=
  (.seq (.reg [B 0 (.alloc [.int .u32 0, .int .u32 0, .int .u32 0, .int .u32 0, .int .u32 0, .int .u32 0, .int .u32 0, .int .u32 0, .int .u32 0, .int .u32 0, .int .u32 0, .int .u32 0, .int .u32 0, .int .u32 0, .int .u32 0, .int .u32 0, .int .u32 0, .int .u32 0, .int .u32 0, .int .u32 0, .int .u32 0, .int .u32 0, .int .u32 0, .int .u32 0, .int .u32 0, .int .u32 0, .int .u32 0, .int .u32 0, .int .u32 0, .int .u32 0, .int .u32 0, .int .u32 0, .int .u32 0, .int .u32 0, .int .u32 0, .int .u32 0, .int .u32 0, .int .u32 0, .int .u32 0, .int .u32 0, .int .u32 0, .int .u32 0, .int .u32 0, .int .u32 0, .int .u32 0, .int .u32 0, .int .u32 0, .int .u32 0, .int .u32 0, .int .u32 0, .int .u32 0, .int .u32 0, .int .u32 0, .int .u32 0, .int .u32 0, .int .u32 0, .int .u32 0, .int .u32 0, .int .u32 0, .int .u32 0, .int .u32 0, .int .u32 0, .int .u32 0, .int .u32 0])] [0])
  (.seq (.reg [B 1 (.build [.int .u32 0, .int .u32 0, .int .u32 0, .int .u32 0, .int .u32 0, .int .u32 0, .int .u32 0, .int .u32 0, .int .u32 0, .int .u32 0, .int .u32 0, .int .u32 0, .int .u32 0, .int .u32 0, .int .u32 0, .int .u32 0, .int .u32 0, .int .u32 0, .int .u32 0, .int .u32 0, .int .u32 0, .int .u32 0, .int .u32 0, .int .u32 0, .int .u32 0, .int .u32 0, .int .u32 0, .int .u32 0, .int .u32 0, .int .u32 0, .int .u32 0, .int .u32 0, .int .u32 0, .int .u32 0, .int .u32 0, .int .u32 0, .int .u32 0, .int .u32 0, .int .u32 0, .int .u32 0, .int .u32 0, .int .u32 0, .int .u32 0, .int .u32 0, .int .u32 0, .int .u32 0, .int .u32 0, .int .u32 0, .int .u32 0, .int .u32 0, .int .u32 0, .int .u32 0, .int .u32 0, .int .u32 0, .int .u32 0, .int .u32 0, .int .u32 0, .int .u32 0, .int .u32 0, .int .u32 0, .int .u32 0, .int .u32 0, .int .u32 0, .int .u32 0] [(0, 1, (.k (.c (.int .u32 1116352408)))), (1, 1, (.k (.c (.int .u32 1899447441)))), (2, 1, (.k (.c (.int .u32 3049323471)))), (3, 1, (.k (.c (.int .u32 3921009573)))), (4, 1, (.k (.c (.int .u32 961987163)))), (5, 1, (.k (.c (.int .u32 1508970993)))), (6, 1, (.k (.c (.int .u32 2453635748)))), (7, 1, (.k (.c (.int .u32 2870763221)))), (8, 1, (.k (.c (.int .u32 3624381080)))), (9, 1, (.k (.c (.int .u32 310598401)))), (10, 1, (.k (.c (.int .u32 607225278)))), (11, 1, (.k (.c (.int .u32 1426881987)))), (12, 1, (.k (.c (.int .u32 1925078388)))), (13, 1, (.k (.c (.int .u32 2162078206)))), (14, 1, (.k (.c (.int .u32 2614888103)))), (15, 1, (.k (.c (.int .u32 3248222580)))), (16, 1, (.k (.c (.int .u32 3835390401)))), (17, 1, (.k (.c (.int .u32 4022224774)))), (18, 1, (.k (.c (.int .u32 264347078)))), (19, 1, (.k (.c (.int .u32 604807628)))), (20, 1, (.k (.c (.int .u32 770255983)))), (21, 1, (.k (.c (.int .u32 1249150122)))), (22, 1, (.k (.c (.int .u32 1555081692)))), (23, 1, (.k (.c (.int .u32 1996064986)))), (24, 1, (.k (.c (.int .u32 2554220882)))), (25, 1, (.k (.c (.int .u32 2821834349)))), (26, 1, (.k (.c (.int .u32 2952996808)))), (27, 1, (.k (.c (.int .u32 3210313671)))), (28, 1, (.k (.c (.int .u32 3336571891)))), (29, 1, (.k (.c (.int .u32 3584528711)))), (30, 1, (.k (.c (.int .u32 113926993)))), (31, 1, (.k (.c (.int .u32 338241895)))), (32, 1, (.k (.c (.int .u32 666307205)))), (33, 1, (.k (.c (.int .u32 773529912)))), (34, 1, (.k (.c (.int .u32 1294757372)))), (35, 1, (.k (.c (.int .u32 1396182291)))), (36, 1, (.k (.c (.int .u32 1695183700)))), (37, 1, (.k (.c (.int .u32 1986661051)))), (38, 1, (.k (.c (.int .u32 2177026350)))), (39, 1, (.k (.c (.int .u32 2456956037)))), (40, 1, (.k (.c (.int .u32 2730485921)))), (41, 1, (.k (.c (.int .u32 2820302411)))), (42, 1, (.k (.c (.int .u32 3259730800)))), (43, 1, (.k (.c (.int .u32 3345764771)))), (44, 1, (.k (.c (.int .u32 3516065817)))), (45, 1, (.k (.c (.int .u32 3600352804)))), (46, 1, (.k (.c (.int .u32 4094571909)))), (47, 1, (.k (.c (.int .u32 275423344)))), (48, 1, (.k (.c (.int .u32 430227734)))), (49, 1, (.k (.c (.int .u32 506948616)))), (50, 1, (.k (.c (.int .u32 659060556)))), (51, 1, (.k (.c (.int .u32 883997877)))), (52, 1, (.k (.c (.int .u32 958139571)))), (53, 1, (.k (.c (.int .u32 1322822218)))), (54, 1, (.k (.c (.int .u32 1537002063)))), (55, 1, (.k (.c (.int .u32 1747873779)))), (56, 1, (.k (.c (.int .u32 1955562222)))), (57, 1, (.k (.c (.int .u32 2024104815)))), (58, 1, (.k (.c (.int .u32 2227730452)))), (59, 1, (.k (.c (.int .u32 2361852424)))), (60, 1, (.k (.c (.int .u32 2428436474)))), (61, 1, (.k (.c (.int .u32 2756734187)))), (62, 1, (.k (.c (.int .u32 3204031479)))), (63, 1, (.k (.c (.int .u32 3329325298))))]), Bn (.store 64 (.t 0) (.t 1))] [0])
  .ret))
def r213 : List ARes := [.cell 0 true 64]
theorem k213 : bChk Tryz.prog 213 Tryz.f213 0 c213 r213 = true := by kernel_rfl
theorem p213 : Tryz.prog.funcs[213]? = some Tryz.f213 := by kernel_rfl

/-- (*scrivener/digest.state).take -/
def c214 : BCode :=
  (.seq (.reg [B 6 (.alloc [.int .u32 0, .int .u32 0, .int .u32 0, .int .u32 0, .int .u32 0, .int .u32 0, .int .u32 0, .int .u32 0, .int .u32 0, .int .u32 0, .int .u32 0, .int .u32 0, .int .u32 0, .int .u32 0, .int .u32 0, .int .u32 0, .int .u32 0, .int .u32 0, .int .u32 0, .int .u32 0, .int .u32 0, .int .u32 0, .int .u32 0, .int .u32 0, .int .u32 0, .int .u32 0, .int .u32 0, .int .u32 0, .int .u32 0, .int .u32 0, .int .u32 0, .int .u32 0, .int .u32 0, .int .u32 0, .int .u32 0, .int .u32 0, .int .u32 0, .int .u32 0, .int .u32 0, .int .u32 0, .int .u32 0, .int .u32 0, .int .u32 0, .int .u32 0, .int .u32 0, .int .u32 0, .int .u32 0, .int .u32 0, .int .u32 0, .int .u32 0, .int .u32 0, .int .u32 0, .int .u32 0, .int .u32 0, .int .u32 0, .int .u32 0, .int .u32 0, .int .u32 0, .int .u32 0, .int .u32 0, .int .u32 0, .int .u32 0, .int .u32 0, .int .u32 0])] [0, 1, 2, 6])
  (.seq (.seq (.reg [B 20 (.mv (.k (.c (.int .i64 0))))] [0, 1, 2, 6, 20])
  (.block 0 (.loop (.seq (.reg [B 21 (.bin .lt (.t 20) (.k (.c (.int .i64 16))))] [0, 1, 2, 6, 20, 21])
  (.seq (.cond (.t 21) .skip
  (.exit 0))
  (.seq (.block 1 (.seq (.reg [B 22 (.mv (.t 20)), B 7 (.asg (.t 22))] [0, 1, 2, 6, 7, 20])
  (.reg [B 23 (.mv (.t 7)), B 24 (.mv (.t 1)), B 25 (.mv (.t 7)), B 26 (.bin .mul (.k (.c (.int .i64 4))) (.t 25)), B 27 (.slice 1 (.t 24) (some (.t 26)) none none), B 28 (.call 265 [(.t 27)]), B 29 (.iarr 1 64 (.t 6) (.t 23)), Bn (.store 1 (.t 29) (.t 28))] [0, 1, 2, 6, 20])))
  (.reg [B 30 (.bin .add (.t 20) (.k (.c (.int .i64 1)))), B 20 (.mv (.t 30))] [0, 1, 2, 6, 20])))))))
  (.seq (.seq (.reg [B 8 (.asg (.k (.c (.int .i64 16))))] [0, 2, 6, 8])
  (.block 2 (.loop (.seq (.seq (.reg [B 31 (.mv (.t 8)), B 32 (.bin .lt (.t 31) (.k (.c (.int .i64 64))))] [0, 2, 6, 8, 32])
  (.cond (.t 32) .skip
  (.exit 2)))
  (.seq (.block 3 (.seq (.regd [Oo 35 (.mv (.t 8)), Oo 36 (.bin .sub (.t 35) (.k (.c (.int .i64 15)))), Oo 37 (.iarr 1 64 (.t 6) (.t 36)), Oo 38 (.load false 1 (.t 37)), Oo 39 (.mv (.t 8)), Oo 40 (.bin .sub (.t 39) (.k (.c (.int .i64 2)))), Oo 41 (.iarr 1 64 (.t 6) (.t 40)), Oo 42 (.load false 1 (.t 41)), Oo 9 (.asg (.t 38)), Oo 10 (.asg (.t 42))]
    (.fl 0 (.fl 1 (.fl 2 (.fl 3 (.fl 4 (.fl 5 (.fl 6 (.fl 7 (.ch 8 [7] (.ch 9 [] .done)))))))))) [0, 2, 6, 8, 9, 10])
  (.seq (.reg [B 43 (.mv (.t 9)), B 44 (.call 266 [(.t 43), (.k (.c (.int .u64 7)))]), B 45 (.mv (.t 9)), B 46 (.call 266 [(.t 45), (.k (.c (.int .u64 18)))]), B 47 (.bin .xor (.t 44) (.t 46)), B 48 (.mv (.t 9)), B 49 (.bin .shr (.t 48) (.k (.c (.int .u64 3)))), B 50 (.bin .xor (.t 47) (.t 49)), B 11 (.asg (.t 50))] [0, 2, 6, 8, 10, 11])
  (.seq (.reg [B 51 (.mv (.t 10)), B 52 (.call 266 [(.t 51), (.k (.c (.int .u64 17)))]), B 53 (.mv (.t 10)), B 54 (.call 266 [(.t 53), (.k (.c (.int .u64 19)))]), B 55 (.bin .xor (.t 52) (.t 54)), B 56 (.mv (.t 10)), B 57 (.bin .shr (.t 56) (.k (.c (.int .u64 10)))), B 58 (.bin .xor (.t 55) (.t 57)), B 12 (.asg (.t 58))] [0, 2, 6, 8, 11, 12])
  (.regd [Oo 59 (.mv (.t 8)), Oo 60 (.mv (.t 8)), Oo 61 (.bin .sub (.t 60) (.k (.c (.int .i64 16)))), Oo 62 (.iarr 1 64 (.t 6) (.t 61)), Oo 63 (.load false 1 (.t 62)), Oo 64 (.mv (.t 11)), Oo 65 (.bin .add (.t 63) (.t 64)), Oo 66 (.mv (.t 8)), Oo 67 (.bin .sub (.t 66) (.k (.c (.int .i64 7)))), Oo 68 (.iarr 1 64 (.t 6) (.t 67)), Oo 69 (.load false 1 (.t 68)), Oo 70 (.bin .add (.t 65) (.t 69)), Oo 71 (.mv (.t 12)), Oo 72 (.bin .add (.t 70) (.t 71)), Oo 73 (.iarr 1 64 (.t 6) (.t 59)), On (.store 1 (.t 73) (.t 72))]
    (.fl 0 (.fl 1 (.fl 2 (.fl 3 (.fl 4 (.fl 5 (.fl 6 (.fl 7 (.fl 8 (.fl 9 (.fl 10 (.fl 11 (.fl 12 (.fl 13 (.fl 14 (.ch 15 [] .done)))))))))))))))) [0, 2, 6, 8])))))
  (.reg [B 33 (.mv (.t 8)), B 34 (.bin .add (.t 33) (.k (.c (.int .i64 1)))), B 8 (.asg (.t 34))] [0, 2, 6, 8]))))))
  (.seq (.reg [B 74 (.mv (.t 0)), B 75 (.nilck (.t 74)), B 76 (.load true 8 (.t 75)), B 13 (.alloc [.int .u32 0, .int .u32 0, .int .u32 0, .int .u32 0, .int .u32 0, .int .u32 0, .int .u32 0, .int .u32 0]), Bn (.store 8 (.t 13) (.t 76))] [0, 2, 6, 13])
  (.seq (.seq (.reg [B 77 (.mv (.k (.c (.int .i64 0))))] [0, 2, 6, 13, 77])
  (.block 4 (.loop (.seq (.reg [B 78 (.bin .lt (.t 77) (.k (.c (.int .i64 64))))] [0, 2, 6, 13, 77, 78])
  (.seq (.cond (.t 78) .skip
  (.exit 4))
  (.seq (.block 5 (.seq (.reg [B 79 (.mv (.t 77)), B 14 (.asg (.t 79))] [0, 2, 6, 13, 14, 77])
  (.seq (.regd [Oo 80 (.iarr 1 8 (.t 13) (.k (.c (.int .i64 0)))), Oo 81 (.load false 1 (.t 80)), Oo 82 (.iarr 1 8 (.t 13) (.k (.c (.int .i64 4)))), Oo 83 (.load false 1 (.t 82)), Oo 15 (.asg (.t 81)), Oo 16 (.asg (.t 83))]
    (.fl 0 (.fl 1 (.fl 2 (.fl 3 (.ch 4 [3] (.ch 5 [] .done)))))) [0, 2, 6, 13, 14, 15, 16, 77])
  (.seq (.regd [Oo 84 (.iarr 1 8 (.t 13) (.k (.c (.int .i64 7)))), Oo 85 (.load false 1 (.t 84)), Oo 86 (.mv (.t 16)), Oo 87 (.call 266 [(.t 86), (.k (.c (.int .u64 6)))]), Oo 88 (.mv (.t 16)), Oo 89 (.call 266 [(.t 88), (.k (.c (.int .u64 11)))]), Oo 90 (.bin .xor (.t 87) (.t 89)), Oo 91 (.mv (.t 16)), Oo 92 (.call 266 [(.t 91), (.k (.c (.int .u64 25)))]), Oo 93 (.bin .xor (.t 90) (.t 92)), Oo 94 (.bin .add (.t 85) (.t 93)), Oo 95 (.mv (.t 16)), Oo 96 (.iarr 1 8 (.t 13) (.k (.c (.int .i64 5)))), Oo 97 (.load false 1 (.t 96)), Oo 98 (.bin .and (.t 95) (.t 97)), Oo 99 (.mv (.t 16)), Oo 100 (.inv (.t 99)), Oo 101 (.iarr 1 8 (.t 13) (.k (.c (.int .i64 6)))), Oo 102 (.load false 1 (.t 101)), Oo 103 (.bin .and (.t 100) (.t 102)), Oo 104 (.bin .xor (.t 98) (.t 103)), Oo 105 (.bin .add (.t 94) (.t 104)), Oo 106 (.mv (.t 2)), Oo 107 (.mv (.t 14)), Oo 108 (.nilck (.t 106)), Oo 109 (.iarr 1 64 (.t 108) (.t 107)), Oo 110 (.load false 1 (.t 109)), Oo 111 (.bin .add (.t 105) (.t 110)), Oo 112 (.mv (.t 14)), Oo 113 (.iarr 1 64 (.t 6) (.t 112)), Oo 114 (.load false 1 (.t 113)), Oo 115 (.bin .add (.t 111) (.t 114)), Oo 17 (.asg (.t 115))]
    (.fl 0 (.fl 1 (.fl 2 (.fl 4 (.fl 7 (.fl 11 (.fl 12 (.fl 13 (.fl 14 (.fl 15 (.fl 16 (.fl 17 (.fl 18 (.fl 19 (.fl 20 (.fl 22 (.fl 23 (.fl 24 (.fl 25 (.fl 26 (.fl 28 (.fl 29 (.fl 30 (.ch 3 [1, 13, 18, 26, 30] (.ch 5 [1, 13, 18, 26, 30] (.fl 6 (.ch 8 [1, 13, 18, 26, 30] (.fl 9 (.fl 10 (.fl 21 (.fl 27 (.fl 31 (.ch 32 [] .done))))))))))))))))))))))))))))))))) [0, 2, 6, 13, 15, 17, 77])
  (.seq (.regd [Oo 116 (.mv (.t 15)), Oo 117 (.call 266 [(.t 116), (.k (.c (.int .u64 2)))]), Oo 118 (.mv (.t 15)), Oo 119 (.call 266 [(.t 118), (.k (.c (.int .u64 13)))]), Oo 120 (.bin .xor (.t 117) (.t 119)), Oo 121 (.mv (.t 15)), Oo 122 (.call 266 [(.t 121), (.k (.c (.int .u64 22)))]), Oo 123 (.bin .xor (.t 120) (.t 122)), Oo 124 (.mv (.t 15)), Oo 125 (.iarr 1 8 (.t 13) (.k (.c (.int .i64 1)))), Oo 126 (.load false 1 (.t 125)), Oo 127 (.bin .and (.t 124) (.t 126)), Oo 128 (.mv (.t 15)), Oo 129 (.iarr 1 8 (.t 13) (.k (.c (.int .i64 2)))), Oo 130 (.load false 1 (.t 129)), Oo 131 (.bin .and (.t 128) (.t 130)), Oo 132 (.bin .xor (.t 127) (.t 131)), Oo 133 (.iarr 1 8 (.t 13) (.k (.c (.int .i64 1)))), Oo 134 (.load false 1 (.t 133)), Oo 135 (.iarr 1 8 (.t 13) (.k (.c (.int .i64 2)))), Oo 136 (.load false 1 (.t 135)), Oo 137 (.bin .and (.t 134) (.t 136)), Oo 138 (.bin .xor (.t 132) (.t 137)), Oo 139 (.bin .add (.t 123) (.t 138)), Oo 18 (.asg (.t 139))]
    (.fl 0 (.fl 2 (.fl 5 (.fl 8 (.fl 9 (.fl 10 (.fl 11 (.fl 12 (.fl 13 (.fl 14 (.fl 15 (.fl 16 (.fl 17 (.fl 18 (.fl 19 (.fl 20 (.fl 21 (.fl 22 (.ch 1 [10, 14, 18, 20] (.ch 3 [10, 14, 18, 20] (.fl 4 (.ch 6 [10, 14, 18, 20] (.fl 7 (.fl 23 (.ch 24 [] .done))))))))))))))))))))))))) [0, 2, 6, 13, 17, 18, 77])
  (.reg [B 140 (.mv (.t 17)), B 141 (.mv (.t 18)), B 142 (.bin .add (.t 140) (.t 141)), B 143 (.iarr 1 8 (.t 13) (.k (.c (.int .i64 0)))), B 144 (.load false 1 (.t 143)), B 145 (.iarr 1 8 (.t 13) (.k (.c (.int .i64 1)))), B 146 (.load false 1 (.t 145)), B 147 (.iarr 1 8 (.t 13) (.k (.c (.int .i64 2)))), B 148 (.load false 1 (.t 147)), B 149 (.iarr 1 8 (.t 13) (.k (.c (.int .i64 3)))), B 150 (.load false 1 (.t 149)), B 151 (.mv (.t 17)), B 152 (.bin .add (.t 150) (.t 151)), B 153 (.iarr 1 8 (.t 13) (.k (.c (.int .i64 4)))), B 154 (.load false 1 (.t 153)), B 155 (.iarr 1 8 (.t 13) (.k (.c (.int .i64 5)))), B 156 (.load false 1 (.t 155)), B 157 (.iarr 1 8 (.t 13) (.k (.c (.int .i64 6)))), B 158 (.load false 1 (.t 157)), B 159 (.build [.int .u32 0, .int .u32 0, .int .u32 0, .int .u32 0, .int .u32 0, .int .u32 0, .int .u32 0, .int .u32 0] [(0, 1, (.t 142)), (1, 1, (.t 144)), (2, 1, (.t 146)), (3, 1, (.t 148)), (4, 1, (.t 152)), (5, 1, (.t 154)), (6, 1, (.t 156)), (7, 1, (.t 158))]), Bn (.store 8 (.t 13) (.t 159))] [0, 2, 6, 13, 77]))))))
  (.reg [B 160 (.bin .add (.t 77) (.k (.c (.int .i64 1)))), B 77 (.mv (.t 160))] [0, 2, 6, 13, 77])))))))
  (.seq (.reg [B 161 (.mv (.k (.c (.int .i64 0))))] [0, 13, 161])
  (.block 6 (.loop (.seq (.reg [B 162 (.bin .lt (.t 161) (.k (.c (.int .i64 8))))] [0, 13, 161, 162])
  (.seq (.cond (.t 162) .skip
  (.exit 6))
  (.seq (.block 7 (.seq (.reg [B 163 (.mv (.t 161)), B 19 (.asg (.t 163))] [0, 13, 19, 161])
  (.regd [Oo 164 (.mv (.t 0)), Oo 165 (.mv (.t 19)), Oo 166 (.nilck (.t 164)), Oo 167 (.iarr 1 8 (.t 166) (.t 165)), Oo 168 (.load false 1 (.t 167)), Oo 169 (.mv (.t 19)), Oo 170 (.iarr 1 8 (.t 13) (.t 169)), Oo 171 (.load false 1 (.t 170)), Oo 172 (.bin .add (.t 168) (.t 171)), Oo 173 (.nilck (.t 164)), Oo 174 (.iarr 1 8 (.t 173) (.t 165)), On (.store 1 (.t 174) (.t 172))]
    (.fl 0 (.fl 1 (.fl 2 (.fl 3 (.fl 4 (.fl 5 (.fl 6 (.fl 7 (.fl 8 (.fl 9 (.fl 10 (.ch 11 [] .done)))))))))))) [0, 13, 161])))
  (.reg [B 175 (.bin .add (.t 161) (.k (.c (.int .i64 1)))), B 161 (.mv (.t 175))] [0, 13, 161]))))))))))))
def r214 : List ARes := []
theorem k214 : bChk Tryz.prog 214 Tryz.f214 3 c214 r214 = true := by kernel_rfl
theorem p214 : Tryz.prog.funcs[214]? = some Tryz.f214 := by kernel_rfl

/-- (*scrivener/client.Client).over -/
def c215 : BCode :=
  (.seq (.reg [B 4 (.asg (.k (.c (.sl 3 [] .nil))))] [0, 1])
  (.seq (.seq (.regd [Oo 5 (.mv (.t 0)), Oo 6 (.nilck (.t 5)), Oo 7 (.fadr 7 (.t 6)), Oo 8 (.load false 1 (.t 7)), Oo 9 (.nilck (.t 8)), Oo 10 (.fadr 2 (.t 9)), Oo 11 (.load false 1 (.t 10)), Oo 12 (.mv (.t 0)), Oo 13 (.nilck (.t 12)), Oo 14 (.fadr 1 (.t 13)), Oo 15 (.load false 1 (.t 14)), Oo 16 (.bin .ge (.t 11) (.t 15))]
    (.fl 0 (.fl 1 (.fl 2 (.fl 3 (.fl 4 (.fl 5 (.fl 6 (.fl 7 (.fl 8 (.fl 9 (.fl 10 (.fl 11 .done)))))))))))) [0, 1, 16])
  (.cond (.t 16) (.seq (.reg [B 17 (.mv (.t 0)), B 18 (.mv (.t 1)), B 19 (.call 111 [(.t 17), (.t 18)]), B 4 (.asg (.t 19))] [4])
  .ret)
  .skip))
  (.seq (.reg [B 20 (.mv (.t 0)), B 21 (.nilck (.t 20)), B 22 (.fadr 7 (.t 21)), B 23 (.load false 1 (.t 22)), B 24 (.nilck (.t 23)), B 25 (.fadr 2 (.t 24)), B 26 (.load false 1 (.t 25)), B 27 (.bin .add (.t 26) (.k (.c (.int .i64 1)))), B 28 (.nilck (.t 23)), B 29 (.fadr 2 (.t 28)), Bn (.store 1 (.t 29) (.t 27))] [0, 1])
  (.seq (.seq (.reg [B 30 (.mv (.t 1)), B 31 (.bin .eq (.t 30) (.k (.c (.int .i64 7))))] [0, 31])
  (.cond (.t 31) (.reg [B 32 (.mv (.t 0)), B 33 (.nilck (.t 32)), B 34 (.fadr 4 (.t 33)), Bn (.store 1 (.t 34) (.k (.c (.bool false))))] [0])
  .skip))
  (.seq (.reg [B 35 (.mv (.t 0)), B 36 (.call 38 [(.t 35)]), B 4 (.asg (.t 36))] [4])
  .ret)))))
def r215 : List ARes := [.tmp 4]
theorem k215 : bChk Tryz.prog 215 Tryz.f215 2 c215 r215 = true := by kernel_rfl
theorem p215 : Tryz.prog.funcs[215]? = some Tryz.f215 := by kernel_rfl

/-- (*scrivener/client.Client).digested -/
def c216 : BCode :=
  (.seq (.reg [B 3 (.boxR (.t 1)), B 4 (.asg (.k (.c (.sl 3 [] .nil))))] [0, 3])
  (.seq (.reg [B 5 (.alloc [.int .u8 0, .int .u8 0, .int .u8 0, .int .u8 0, .int .u8 0, .int .u8 0, .int .u8 0, .int .u8 0, .int .u8 0, .int .u8 0, .int .u8 0, .int .u8 0, .int .u8 0, .int .u8 0, .int .u8 0, .int .u8 0, .int .u8 0, .int .u8 0, .int .u8 0, .int .u8 0, .int .u8 0, .int .u8 0, .int .u8 0, .int .u8 0, .int .u8 0, .int .u8 0, .int .u8 0, .int .u8 0, .int .u8 0, .int .u8 0, .int .u8 0, .int .u8 0])] [0, 3, 5])
  (.seq (.seq (.reg [B 7 (.fadr 1 (.t 3)), B 8 (.load false 1 (.t 7)), B 9 (.bin .ne (.t 8) (.k (.c (.int .i64 0)))), B 10 (.mv (.t 9)), Bg 11 (.fadr 2 (.t 3)) 10 false, Bg 12 (.load false 1 (.t 11)) 10 false, Bg 13 (.len (.t 12)) 10 false, Bg 14 (.bin .ne (.t 13) (.k (.c (.int .i64 1)))) 10 false, B 15 (.pick (.t 10) (.k (.c (.bool true))) (.t 14)), B 16 (.mv (.t 15)), Bg 17 (.fadr 2 (.t 3)) 16 false, Bg 18 (.load false 1 (.t 17)) 16 false, Bg 19 (.iadr 1 (.t 18) (.k (.c (.int .i64 0)))) 16 false, Bg 20 (.load false 1 (.t 19)) 16 false, Bg 21 (.bin .lt (.t 20) (.k (.c (.int .i64 0)))) 16 false, B 22 (.pick (.t 16) (.k (.c (.bool true))) (.t 21)), B 23 (.mv (.t 22)), Bg 24 (.fadr 4 (.t 3)) 23 false, Bg 25 (.load false 1 (.t 24)) 23 false, Bg 26 (.len (.t 25)) 23 false, Bg 27 (.bin .ne (.t 26) (.k (.c (.int .i64 32)))) 23 false, B 28 (.pick (.t 23) (.k (.c (.bool true))) (.t 27))] [0, 3, 5, 28])
  (.cond (.t 28) (.seq (.reg [B 29 (.mv (.t 0)), B 30 (.call 111 [(.t 29), (.k (.c (.int .i64 19)))]), B 4 (.asg (.t 30))] [4])
  .ret)
  .skip))
  (.seq (.regd [Oo 31 (.aslice 1 32 (.t 5)), Oo 32 (.fadr 4 (.t 3)), Oo 33 (.load false 1 (.t 32)), Oo 34 (.cpy 1 (.t 31) (.t 33))]
    (.fl 0 (.fl 1 (.fl 2 (.ch 3 [] .done)))) [0, 3, 5])
  (.seq (.regd [Oo 35 (.fadr 2 (.t 3)), Oo 36 (.load false 1 (.t 35)), Oo 37 (.iadr 1 (.t 36) (.k (.c (.int .i64 0)))), Oo 38 (.load false 1 (.t 37)), Oo 39 (.load true 32 (.t 5)), Oo 40 (.build [.int .i64 0, .int .u8 0, .int .u8 0, .int .u8 0, .int .u8 0, .int .u8 0, .int .u8 0, .int .u8 0, .int .u8 0, .int .u8 0, .int .u8 0, .int .u8 0, .int .u8 0, .int .u8 0, .int .u8 0, .int .u8 0, .int .u8 0, .int .u8 0, .int .u8 0, .int .u8 0, .int .u8 0, .int .u8 0, .int .u8 0, .int .u8 0, .int .u8 0, .int .u8 0, .int .u8 0, .int .u8 0, .int .u8 0, .int .u8 0, .int .u8 0, .int .u8 0, .int .u8 0] [(0, 1, (.t 38)), (1, 32, (.t 39))]), Oo 6 (.alloc [.int .i64 0, .int .u8 0, .int .u8 0, .int .u8 0, .int .u8 0, .int .u8 0, .int .u8 0, .int .u8 0, .int .u8 0, .int .u8 0, .int .u8 0, .int .u8 0, .int .u8 0, .int .u8 0, .int .u8 0, .int .u8 0, .int .u8 0, .int .u8 0, .int .u8 0, .int .u8 0, .int .u8 0, .int .u8 0, .int .u8 0, .int .u8 0, .int .u8 0, .int .u8 0, .int .u8 0, .int .u8 0, .int .u8 0, .int .u8 0, .int .u8 0, .int .u8 0, .int .u8 0]), On (.store 33 (.t 6) (.t 40))]
    (.fl 0 (.fl 1 (.fl 2 (.fl 3 (.fl 4 (.fl 5 (.ch 6 [1, 2, 3, 4] (.ch 7 [] .done)))))))) [0, 6])
  (.seq (.block 0 (.seq (.reg [B 42 (.mv (.t 0)), B 43 (.nilck (.t 42)), B 44 (.fadr 11 (.t 43)), B 45 (.fadr 0 (.t 44)), B 46 (.load false 1 (.t 45)), B 47 (.bin .eq (.t 46) (.k (.c (.int .i64 0)))), B 41 (.asg (.t 47))] [0, 6, 41])
  (.cond (.t 41) (.seq (.reg [B 48 (.mv (.t 0)), B 49 (.load true 33 (.t 6)), B 50 (.nilck (.t 48)), B 51 (.fadr 11 (.t 50)), Bn (.store 33 (.t 51) (.t 49))] [0])
  (.seq (.reg [B 52 (.mv (.t 0)), B 53 (.call 111 [(.t 52), (.k (.c (.int .i64 0)))]), B 4 (.asg (.t 53))] [4])
  .ret))
  (.seq (.regd [Oo 55 (.fadr 0 (.t 6)), Oo 56 (.load false 1 (.t 55)), Oo 57 (.mv (.t 0)), Oo 58 (.nilck (.t 57)), Oo 59 (.fadr 11 (.t 58)), Oo 60 (.fadr 0 (.t 59)), Oo 61 (.load false 1 (.t 60)), Oo 62 (.bin .lt (.t 56) (.t 61)), Oo 63 (.mv (.t 62)), Og 64 (.fadr 0 (.t 6)) 63 false, Og 65 (.load false 1 (.t 64)) 63 false, Og 66 (.mv (.t 0)) 63 false, Og 67 (.nilck (.t 66)) 63 false, Og 68 (.fadr 11 (.t 67)) 63 false, Og 69 (.fadr 0 (.t 68)) 63 false, Og 70 (.load false 1 (.t 69)) 63 false, Og 71 (.bin .eq (.t 65) (.t 70)) 63 false, Og 72 (.mv (.t 71)) 63 false, Og 73 (.load true 33 (.t 6)) 72 true, Og 74 (.mv (.t 0)) 72 true, Og 75 (.nilck (.t 74)) 72 true, Og 76 (.fadr 11 (.t 75)) 72 true, Og 77 (.load true 33 (.t 76)) 72 true, Og 78 (.aeq true (true, [.i .i64, .i .u8, .i .u8, .i .u8, .i .u8, .i .u8, .i .u8, .i .u8, .i .u8, .i .u8, .i .u8, .i .u8, .i .u8, .i .u8, .i .u8, .i .u8, .i .u8, .i .u8, .i .u8, .i .u8, .i .u8, .i .u8, .i .u8, .i .u8, .i .u8, .i .u8, .i .u8, .i .u8, .i .u8, .i .u8, .i .u8, .i .u8, .i .u8]) (.t 73) (.t 77)) 72 true, Og 79 (.pick (.t 72) (.t 78) (.k (.c (.bool false)))) 63 false, Oo 80 (.pick (.t 63) (.k (.c (.bool true))) (.t 79)), Oo 54 (.asg (.t 80))]
    (.fl 0 (.fl 1 (.fl 2 (.fl 3 (.fl 4 (.fl 5 (.fl 6 (.fl 7 (.fl 8 (.fl 9 (.fl 10 (.fl 11 (.fl 12 (.fl 13 (.fl 14 (.fl 15 (.fl 16 (.fl 17 (.fl 18 (.fl 19 (.fl 20 (.fl 21 (.fl 22 (.fl 23 (.fl 24 (.fl 25 (.ch 26 [] .done))))))))))))))))))))))))))) [0, 6, 54])
  (.cond (.t 54) (.seq (.reg [B 81 (.mv (.t 0)), B 82 (.call 111 [(.t 81), (.k (.c (.int .i64 19)))]), B 4 (.asg (.t 82))] [4])
  .ret)
  (.seq (.regd [Oo 84 (.load true 33 (.t 6)), Oo 85 (.mv (.t 0)), Oo 86 (.nilck (.t 85)), Oo 87 (.fadr 11 (.t 86)), Oo 88 (.load true 33 (.t 87)), Oo 89 (.aeq false (true, [.i .i64, .i .u8, .i .u8, .i .u8, .i .u8, .i .u8, .i .u8, .i .u8, .i .u8, .i .u8, .i .u8, .i .u8, .i .u8, .i .u8, .i .u8, .i .u8, .i .u8, .i .u8, .i .u8, .i .u8, .i .u8, .i .u8, .i .u8, .i .u8, .i .u8, .i .u8, .i .u8, .i .u8, .i .u8, .i .u8, .i .u8, .i .u8, .i .u8]) (.t 84) (.t 88)), Oo 83 (.asg (.t 89))]
    (.fl 0 (.fl 1 (.fl 2 (.fl 3 (.fl 4 (.fl 5 (.ch 6 [] .done))))))) [0, 6, 83])
  (.cond (.t 83) (.seq (.reg [B 90 (.mv (.t 0)), B 91 (.call 111 [(.t 90), (.k (.c (.int .i64 0)))]), B 4 (.asg (.t 91))] [4])
  .ret)
  .skip)))))))
  (.seq (.regd [Oo 92 (.mv (.t 0)), Oo 93 (.nilck (.t 92)), Oo 94 (.fadr 7 (.t 93)), Oo 95 (.load false 1 (.t 94)), Oo 96 (.load true 33 (.t 6)), Oo 97 (.nilck (.t 95)), Oo 98 (.fadr 39 (.t 97)), On (.store 33 (.t 98) (.t 96))]
    (.fl 0 (.fl 1 (.fl 2 (.fl 3 (.fl 4 (.fl 5 (.fl 6 (.ch 7 [] .done)))))))) [0, 6])
  (.seq (.regd [Oo 99 (.mv (.t 0)), Oo 100 (.mv (.t 0)), Oo 101 (.nilck (.t 100)), Oo 102 (.fadr 11 (.t 101)), Oo 103 (.fadr 0 (.t 102)), Oo 104 (.load false 1 (.t 103)), Oo 105 (.fadr 0 (.t 6)), Oo 106 (.load false 1 (.t 105)), Oo 107 (.slR 1 2 [.int .i64 0, .int .i64 0] [(0, 1, (.t 104)), (1, 1, (.t 106))]), Oo 108 (.build [.int .i64 0, .int .i64 0, .sl 1 [] .nil, .str [], .sl 6 [] .nil, .int .u8 0, .int .u8 0, .int .u8 0, .int .u8 0, .int .u8 0, .int .u8 0, .int .u8 0, .int .u8 0, .int .u8 0, .int .u8 0, .int .u8 0, .int .u8 0, .int .u8 0, .int .u8 0, .int .u8 0, .int .u8 0, .int .u8 0, .int .u8 0, .int .u8 0, .int .u8 0, .int .u8 0, .int .u8 0, .int .u8 0, .int .u8 0, .int .u8 0, .int .u8 0, .int .u8 0, .int .u8 0, .int .u8 0, .int .u8 0, .int .u8 0, .int .u8 0] [(0, 1, (.k (.c (.int .i64 11)))), (2, 1, (.t 107))]), Oo 109 (.mv (.t 0)), Oo 110 (.mkbfn 267 [(.t 109)]), Oo 111 (.call 68 [(.t 99), (.t 108), (.t 110)]), Oo 4 (.asg (.t 111))]
    (.fl 0 (.fl 1 (.fl 2 (.fl 3 (.fl 4 (.fl 5 (.fl 6 (.fl 7 (.fl 8 (.fl 9 (.fl 10 (.fl 11 (.ch 12 [] (.ch 13 [] .done)))))))))))))) [4])
  .ret))))))))
def r216 : List ARes := [.tmp 4]
theorem k216 : bChk Tryz.prog 216 Tryz.f216 2 c216 r216 = true := by kernel_rfl
theorem p216 : Tryz.prog.funcs[216]? = some Tryz.f216 := by kernel_rfl

/-- (*scrivener/client.Client).aborted -/
def c217 : BCode :=
  (.seq (.reg [B 3 (.boxR (.t 1)), B 4 (.asg (.k (.c (.sl 3 [] .nil))))] [0])
  (.seq (.reg [B 5 (.mv (.t 0)), B 6 (.mv (.t 0)), B 7 (.nilck (.t 6)), B 8 (.fadr 7 (.t 7)), B 9 (.load false 1 (.t 8)), B 10 (.nilck (.t 9)), B 11 (.fadr 72 (.t 10)), B 12 (.load false 1 (.t 11)), B 13 (.call 111 [(.t 5), (.t 12)]), B 4 (.asg (.t 13))] [4])
  .ret))
def r217 : List ARes := [.tmp 4]
theorem k217 : bChk Tryz.prog 217 Tryz.f217 2 c217 r217 = true := by kernel_rfl
theorem p217 : Tryz.prog.funcs[217]? = some Tryz.f217 := by kernel_rfl

/-- scrivener/occ.Next -/
def c218 : BCode :=
  (.seq (.reg [B 3 (.boxR (.t 0)), B 6 (.alloc [.int .u8 0, .int .u8 0, .int .u8 0, .int .u8 0, .int .u8 0, .int .u8 0, .int .u8 0, .int .u8 0, .int .u8 0, .int .u8 0, .int .u8 0, .int .u8 0, .int .u8 0, .int .u8 0, .int .u8 0, .int .u8 0, .int .u8 0, .int .u8 0, .int .u8 0, .int .u8 0, .int .u8 0, .int .u8 0, .int .u8 0, .int .u8 0, .int .u8 0, .int .u8 0, .int .u8 0, .int .u8 0, .int .u8 0, .int .u8 0, .int .u8 0, .int .u8 0]), B 7 (.asg (.k (.c (.int .i64 0))))] [1, 2, 3, 6])
  (.seq (.reg [B 13 (.mv (.t 1)), B 14 (.slen (.t 13)), B 15 (.conv .u64 (.t 14)), B 16 (.call 96 [(.t 15)]), B 17 (.mv (.t 1)), B 18 (.app 1 1 (.t 16) (.t 17)), B 8 (.asg (.t 18))] [2, 3, 6, 8])
  (.seq (.seq (.reg [B 19 (.mv (.t 2)), B 20 (.len (.t 19)), B 21 (.mv (.k (.c (.int .i64 0))))] [3, 6, 8, 19, 20, 21])
  (.block 0 (.loop (.seq (.reg [B 22 (.bin .lt (.t 21) (.t 20))] [3, 6, 8, 19, 20, 21, 22])
  (.seq (.cond (.t 22) .skip
  (.exit 0))
  (.seq (.block 1 (.seq (.reg [B 23 (.iadr 6 (.t 19) (.t 21)), B 24 (.load true 6 (.t 23)), B 10 (.alloc [.int .i64 0, .int .i64 0, .int .i64 0, .str [], .sl 1 [] .nil, .sl 6 [] .nil]), Bn (.store 6 (.t 10) (.t 24))] [3, 6, 8, 10, 19, 20, 21])
  (.seq (.reg [B 26 (.load true 6 (.t 10)), B 27 (.call 98 [(.t 26)]), B 25 (.mv (.t 27)), B 28 (.extract 0 (.t 25)), B 29 (.extract 1 (.t 25)), B 11 (.asg (.t 28)), B 12 (.asg (.t 29))] [3, 6, 8, 11, 12, 19, 20, 21])
  (.seq (.seq (.reg [B 30 (.mv (.t 12)), B 31 (.bin .ne (.t 30) (.k (.c (.int .i64 0))))] [3, 6, 8, 11, 12, 19, 20, 21, 31])
  (.cond (.t 31) (.seq (.reg [B 32 (.build [.int .u8 0, .int .u8 0, .int .u8 0, .int .u8 0, .int .u8 0, .int .u8 0, .int .u8 0, .int .u8 0, .int .u8 0, .int .u8 0, .int .u8 0, .int .u8 0, .int .u8 0, .int .u8 0, .int .u8 0, .int .u8 0, .int .u8 0, .int .u8 0, .int .u8 0, .int .u8 0, .int .u8 0, .int .u8 0, .int .u8 0, .int .u8 0, .int .u8 0, .int .u8 0, .int .u8 0, .int .u8 0, .int .u8 0, .int .u8 0, .int .u8 0, .int .u8 0] []), B 33 (.mv (.t 12)), Bn (.store 32 (.t 6) (.t 32)), B 7 (.asg (.t 33))] [6, 7])
  .ret)
  .skip))
  (.reg [B 34 (.mv (.t 8)), B 35 (.mv (.t 11)), B 36 (.len (.t 35)), B 37 (.conv .u64 (.t 36)), B 38 (.call 96 [(.t 37)]), B 39 (.app 1 1 (.t 34) (.t 38)), B 40 (.mv (.t 11)), B 41 (.app 1 1 (.t 39) (.t 40)), B 8 (.asg (.t 41))] [3, 6, 8, 19, 20, 21])))))
  (.reg [B 42 (.bin .add (.t 21) (.k (.c (.int .i64 1)))), B 21 (.mv (.t 42))] [3, 6, 8, 19, 20, 21])))))))
  (.seq (.reg [B 43 (.load true 32 (.t 3)), B 44 (.mv (.t 8)), B 45 (.call 268 [(.t 43), (.t 44)]), Bn (.store 32 (.t 6) (.t 45)), B 7 (.asg (.k (.c (.int .i64 0))))] [6, 7])
  .ret))))
def r218 : List ARes := [.cell 6 true 32, .tmp 7]
theorem k218 : bChk Tryz.prog 218 Tryz.f218 3 c218 r218 = true := by kernel_rfl
theorem p218 : Tryz.prog.funcs[218]? = some Tryz.f218 := by kernel_rfl

/-- scrivener/scrivenerref2.k -/
def c219 : BCode :=
  (.seq (.reg [B 0 (.alloc [.int .u32 0, .int .u32 0, .int .u32 0, .int .u32 0, .int .u32 0, .int .u32 0, .int .u32 0, .int .u32 0, .int .u32 0, .int .u32 0, .int .u32 0, .int .u32 0, .int .u32 0, .int .u32 0, .int .u32 0, .int .u32 0, .int .u32 0, .int .u32 0, .int .u32 0, .int .u32 0, .int .u32 0, .int .u32 0, .int .u32 0, .int .u32 0, .int .u32 0, .int .u32 0, .int .u32 0, .int .u32 0, .int .u32 0, .int .u32 0, .int .u32 0, .int .u32 0, .int .u32 0, .int .u32 0, .int .u32 0, .int .u32 0, .int .u32 0, .int .u32 0, .int .u32 0, .int .u32 0, .int .u32 0, .int .u32 0, .int .u32 0, .int .u32 0, .int .u32 0, .int .u32 0, .int .u32 0, .int .u32 0, .int .u32 0, .int .u32 0, .int .u32 0, .int .u32 0, .int .u32 0, .int .u32 0, .int .u32 0, .int .u32 0, .int .u32 0, .int .u32 0, .int .u32 0, .int .u32 0, .int .u32 0, .int .u32 0, .int .u32 0, .int .u32 0])] [0])
  (.seq (.reg [B 1 (.build [.int .u32 0, .int .u32 0, .int .u32 0, .int .u32 0, .int .u32 0, .int .u32 0, .int .u32 0, .int .u32 0, .int .u32 0, .int .u32 0, .int .u32 0, .int .u32 0, .int .u32 0, .int .u32 0, .int .u32 0, .int .u32 0, .int .u32 0, .int .u32 0, .int .u32 0, .int .u32 0, .int .u32 0, .int .u32 0, .int .u32 0, .int .u32 0, .int .u32 0, .int .u32 0, .int .u32 0, .int .u32 0, .int .u32 0, .int .u32 0, .int .u32 0, .int .u32 0, .int .u32 0, .int .u32 0, .int .u32 0, .int .u32 0, .int .u32 0, .int .u32 0, .int .u32 0, .int .u32 0, .int .u32 0, .int .u32 0, .int .u32 0, .int .u32 0, .int .u32 0, .int .u32 0, .int .u32 0, .int .u32 0, .int .u32 0, .int .u32 0, .int .u32 0, .int .u32 0, .int .u32 0, .int .u32 0, .int .u32 0, .int .u32 0, .int .u32 0, .int .u32 0, .int .u32 0, .int .u32 0, .int .u32 0, .int .u32 0, .int .u32 0, .int .u32 0] [(0, 1, (.k (.c (.int .u32 1116352408)))), (1, 1, (.k (.c (.int .u32 1899447441)))), (2, 1, (.k (.c (.int .u32 3049323471)))), (3, 1, (.k (.c (.int .u32 3921009573)))), (4, 1, (.k (.c (.int .u32 961987163)))), (5, 1, (.k (.c (.int .u32 1508970993)))), (6, 1, (.k (.c (.int .u32 2453635748)))), (7, 1, (.k (.c (.int .u32 2870763221)))), (8, 1, (.k (.c (.int .u32 3624381080)))), (9, 1, (.k (.c (.int .u32 310598401)))), (10, 1, (.k (.c (.int .u32 607225278)))), (11, 1, (.k (.c (.int .u32 1426881987)))), (12, 1, (.k (.c (.int .u32 1925078388)))), (13, 1, (.k (.c (.int .u32 2162078206)))), (14, 1, (.k (.c (.int .u32 2614888103)))), (15, 1, (.k (.c (.int .u32 3248222580)))), (16, 1, (.k (.c (.int .u32 3835390401)))), (17, 1, (.k (.c (.int .u32 4022224774)))), (18, 1, (.k (.c (.int .u32 264347078)))), (19, 1, (.k (.c (.int .u32 604807628)))), (20, 1, (.k (.c (.int .u32 770255983)))), (21, 1, (.k (.c (.int .u32 1249150122)))), (22, 1, (.k (.c (.int .u32 1555081692)))), (23, 1, (.k (.c (.int .u32 1996064986)))), (24, 1, (.k (.c (.int .u32 2554220882)))), (25, 1, (.k (.c (.int .u32 2821834349)))), (26, 1, (.k (.c (.int .u32 2952996808)))), (27, 1, (.k (.c (.int .u32 3210313671)))), (28, 1, (.k (.c (.int .u32 3336571891)))), (29, 1, (.k (.c (.int .u32 3584528711)))), (30, 1, (.k (.c (.int .u32 113926993)))), (31, 1, (.k (.c (.int .u32 338241895)))), (32, 1, (.k (.c (.int .u32 666307205)))), (33, 1, (.k (.c (.int .u32 773529912)))), (34, 1, (.k (.c (.int .u32 1294757372)))), (35, 1, (.k (.c (.int .u32 1396182291)))), (36, 1, (.k (.c (.int .u32 1695183700)))), (37, 1, (.k (.c (.int .u32 1986661051)))), (38, 1, (.k (.c (.int .u32 2177026350)))), (39, 1, (.k (.c (.int .u32 2456956037)))), (40, 1, (.k (.c (.int .u32 2730485921)))), (41, 1, (.k (.c (.int .u32 2820302411)))), (42, 1, (.k (.c (.int .u32 3259730800)))), (43, 1, (.k (.c (.int .u32 3345764771)))), (44, 1, (.k (.c (.int .u32 3516065817)))), (45, 1, (.k (.c (.int .u32 3600352804)))), (46, 1, (.k (.c (.int .u32 4094571909)))), (47, 1, (.k (.c (.int .u32 275423344)))), (48, 1, (.k (.c (.int .u32 430227734)))), (49, 1, (.k (.c (.int .u32 506948616)))), (50, 1, (.k (.c (.int .u32 659060556)))), (51, 1, (.k (.c (.int .u32 883997877)))), (52, 1, (.k (.c (.int .u32 958139571)))), (53, 1, (.k (.c (.int .u32 1322822218)))), (54, 1, (.k (.c (.int .u32 1537002063)))), (55, 1, (.k (.c (.int .u32 1747873779)))), (56, 1, (.k (.c (.int .u32 1955562222)))), (57, 1, (.k (.c (.int .u32 2024104815)))), (58, 1, (.k (.c (.int .u32 2227730452)))), (59, 1, (.k (.c (.int .u32 2361852424)))), (60, 1, (.k (.c (.int .u32 2428436474)))), (61, 1, (.k (.c (.int .u32 2756734187)))), (62, 1, (.k (.c (.int .u32 3204031479)))), (63, 1, (.k (.c (.int .u32 3329325298))))]), Bn (.store 64 (.t 0) (.t 1))] [0])
  .ret))
def r219 : List ARes := [.cell 0 true 64]
theorem k219 : bChk Tryz.prog 219 Tryz.f219 0 c219 r219 = true := by kernel_rfl
theorem p219 : Tryz.prog.funcs[219]? = some Tryz.f219 := by kernel_rfl

/-- scrivener/scrivenerref2.block -/
def c220 : BCode :=
  (.seq (.reg [B 3 (.box (.t 0)), B 6 (.alloc [.int .u32 0, .int .u32 0, .int .u32 0, .int .u32 0, .int .u32 0, .int .u32 0, .int .u32 0, .int .u32 0])] [1, 2, 3, 6])
  (.seq (.reg [B 7 (.alloc [.int .u32 0, .int .u32 0, .int .u32 0, .int .u32 0, .int .u32 0, .int .u32 0, .int .u32 0, .int .u32 0, .int .u32 0, .int .u32 0, .int .u32 0, .int .u32 0, .int .u32 0, .int .u32 0, .int .u32 0, .int .u32 0, .int .u32 0, .int .u32 0, .int .u32 0, .int .u32 0, .int .u32 0, .int .u32 0, .int .u32 0, .int .u32 0, .int .u32 0, .int .u32 0, .int .u32 0, .int .u32 0, .int .u32 0, .int .u32 0, .int .u32 0, .int .u32 0, .int .u32 0, .int .u32 0, .int .u32 0, .int .u32 0, .int .u32 0, .int .u32 0, .int .u32 0, .int .u32 0, .int .u32 0, .int .u32 0, .int .u32 0, .int .u32 0, .int .u32 0, .int .u32 0, .int .u32 0, .int .u32 0, .int .u32 0, .int .u32 0, .int .u32 0, .int .u32 0, .int .u32 0, .int .u32 0, .int .u32 0, .int .u32 0, .int .u32 0, .int .u32 0, .int .u32 0, .int .u32 0, .int .u32 0, .int .u32 0, .int .u32 0, .int .u32 0])] [1, 2, 3, 6, 7])
  (.seq (.seq (.reg [B 8 (.asg (.k (.c (.int .i64 0))))] [1, 2, 3, 6, 7, 8])
  (.block 0 (.loop (.seq (.seq (.reg [B 19 (.mv (.t 8)), B 20 (.bin .lt (.t 19) (.k (.c (.int .i64 16))))] [1, 2, 3, 6, 7, 8, 20])
  (.cond (.t 20) .skip
  (.exit 0)))
  (.seq (.block 1 (.regd [Oo 23 (.mv (.t 8)), Oo 24 (.mv (.t 1)), Oo 25 (.mv (.t 8)), Oo 26 (.bin .mul (.k (.c (.int .i64 4))) (.t 25)), Oo 27 (.iadr 1 (.t 24) (.t 26)), Oo 28 (.load false 1 (.t 27)), Oo 29 (.conv .u32 (.t 28)), Oo 30 (.bin .shl (.t 29) (.k (.c (.int .u64 24)))), Oo 31 (.mv (.t 1)), Oo 32 (.mv (.t 8)), Oo 33 (.bin .mul (.k (.c (.int .i64 4))) (.t 32)), Oo 34 (.bin .add (.t 33) (.k (.c (.int .i64 1)))), Oo 35 (.iadr 1 (.t 31) (.t 34)), Oo 36 (.load false 1 (.t 35)), Oo 37 (.conv .u32 (.t 36)), Oo 38 (.bin .shl (.t 37) (.k (.c (.int .u64 16)))), Oo 39 (.bin .or (.t 30) (.t 38)), Oo 40 (.mv (.t 1)), Oo 41 (.mv (.t 8)), Oo 42 (.bin .mul (.k (.c (.int .i64 4))) (.t 41)), Oo 43 (.bin .add (.t 42) (.k (.c (.int .i64 2)))), Oo 44 (.iadr 1 (.t 40) (.t 43)), Oo 45 (.load false 1 (.t 44)), Oo 46 (.conv .u32 (.t 45)), Oo 47 (.bin .shl (.t 46) (.k (.c (.int .u64 8)))), Oo 48 (.bin .or (.t 39) (.t 47)), Oo 49 (.mv (.t 1)), Oo 50 (.mv (.t 8)), Oo 51 (.bin .mul (.k (.c (.int .i64 4))) (.t 50)), Oo 52 (.bin .add (.t 51) (.k (.c (.int .i64 3)))), Oo 53 (.iadr 1 (.t 49) (.t 52)), Oo 54 (.load false 1 (.t 53)), Oo 55 (.conv .u32 (.t 54)), Oo 56 (.bin .or (.t 48) (.t 55)), Oo 57 (.iarr 1 64 (.t 7) (.t 23)), On (.store 1 (.t 57) (.t 56))]
    (.fl 0 (.fl 1 (.fl 2 (.fl 3 (.fl 4 (.fl 5 (.fl 6 (.fl 7 (.fl 8 (.fl 9 (.fl 10 (.fl 11 (.fl 12 (.fl 13 (.fl 14 (.fl 15 (.fl 16 (.fl 17 (.fl 18 (.fl 19 (.fl 20 (.fl 21 (.fl 22 (.fl 23 (.fl 24 (.fl 25 (.fl 26 (.fl 27 (.fl 28 (.fl 29 (.fl 30 (.fl 31 (.fl 32 (.fl 33 (.fl 34 (.ch 35 [] .done)))))))))))))))))))))))))))))))))))) [1, 2, 3, 6, 7, 8]))
  (.reg [B 21 (.mv (.t 8)), B 22 (.bin .add (.t 21) (.k (.c (.int .i64 1)))), B 8 (.asg (.t 22))] [1, 2, 3, 6, 7, 8]))))))
  (.seq (.seq (.reg [B 9 (.asg (.k (.c (.int .i64 16))))] [2, 3, 6, 7, 9])
  (.block 2 (.loop (.seq (.seq (.reg [B 58 (.mv (.t 9)), B 59 (.bin .lt (.t 58) (.k (.c (.int .i64 64))))] [2, 3, 6, 7, 9, 59])
  (.cond (.t 59) .skip
  (.exit 2)))
  (.seq (.block 3 (.seq (.reg [B 62 (.mv (.t 9)), B 63 (.bin .sub (.t 62) (.k (.c (.int .i64 15)))), B 64 (.iarr 1 64 (.t 7) (.t 63)), B 65 (.load false 1 (.t 64)), B 10 (.asg (.t 65))] [2, 3, 6, 7, 9, 10])
  (.seq (.reg [B 66 (.mv (.t 9)), B 67 (.bin .sub (.t 66) (.k (.c (.int .i64 2)))), B 68 (.iarr 1 64 (.t 7) (.t 67)), B 69 (.load false 1 (.t 68)), B 11 (.asg (.t 69))] [2, 3, 6, 7, 9, 10, 11])
  (.regd [Oo 70 (.mv (.t 9)), Oo 71 (.mv (.t 9)), Oo 72 (.bin .sub (.t 71) (.k (.c (.int .i64 16)))), Oo 73 (.iarr 1 64 (.t 7) (.t 72)), Oo 74 (.load false 1 (.t 73)), Oo 75 (.mv (.t 10)), Oo 76 (.call 269 [(.t 75), (.k (.c (.int .u64 7)))]), Oo 77 (.mv (.t 10)), Oo 78 (.call 269 [(.t 77), (.k (.c (.int .u64 18)))]), Oo 79 (.bin .xor (.t 76) (.t 78)), Oo 80 (.mv (.t 10)), Oo 81 (.bin .shr (.t 80) (.k (.c (.int .u64 3)))), Oo 82 (.bin .xor (.t 79) (.t 81)), Oo 83 (.bin .add (.t 74) (.t 82)), Oo 84 (.mv (.t 9)), Oo 85 (.bin .sub (.t 84) (.k (.c (.int .i64 7)))), Oo 86 (.iarr 1 64 (.t 7) (.t 85)), Oo 87 (.load false 1 (.t 86)), Oo 88 (.bin .add (.t 83) (.t 87)), Oo 89 (.mv (.t 11)), Oo 90 (.call 269 [(.t 89), (.k (.c (.int .u64 17)))]), Oo 91 (.mv (.t 11)), Oo 92 (.call 269 [(.t 91), (.k (.c (.int .u64 19)))]), Oo 93 (.bin .xor (.t 90) (.t 92)), Oo 94 (.mv (.t 11)), Oo 95 (.bin .shr (.t 94) (.k (.c (.int .u64 10)))), Oo 96 (.bin .xor (.t 93) (.t 95)), Oo 97 (.bin .add (.t 88) (.t 96)), Oo 98 (.iarr 1 64 (.t 7) (.t 70)), On (.store 1 (.t 98) (.t 97))]
    (.fl 0 (.fl 1 (.fl 2 (.fl 3 (.fl 4 (.fl 5 (.fl 7 (.fl 10 (.fl 11 (.fl 14 (.fl 15 (.fl 16 (.fl 17 (.fl 19 (.fl 21 (.fl 24 (.fl 25 (.ch 6 [4, 17] (.ch 8 [4, 17] (.fl 9 (.fl 12 (.fl 13 (.fl 18 (.ch 20 [4, 17] (.ch 22 [4, 17] (.fl 23 (.fl 26 (.fl 27 (.fl 28 (.ch 29 [] .done)))))))))))))))))))))))))))))) [2, 3, 6, 7, 9]))))
  (.reg [B 60 (.mv (.t 9)), B 61 (.bin .add (.t 60) (.k (.c (.int .i64 1)))), B 9 (.asg (.t 61))] [2, 3, 6, 7, 9]))))))
  (.seq (.reg [B 99 (.load true 8 (.t 3)), B 12 (.alloc [.int .u32 0, .int .u32 0, .int .u32 0, .int .u32 0, .int .u32 0, .int .u32 0, .int .u32 0, .int .u32 0]), Bn (.store 8 (.t 12) (.t 99))] [2, 3, 6, 7, 12])
  (.seq (.seq (.reg [B 13 (.asg (.k (.c (.int .i64 0))))] [2, 3, 6, 7, 12, 13])
  (.block 4 (.loop (.seq (.seq (.reg [B 100 (.mv (.t 13)), B 101 (.bin .lt (.t 100) (.k (.c (.int .i64 64))))] [2, 3, 6, 7, 12, 13, 101])
  (.cond (.t 101) .skip
  (.exit 4)))
  (.seq (.block 5 (.seq (.regd [Oo 104 (.iarr 1 8 (.t 12) (.k (.c (.int .i64 0)))), Oo 105 (.load false 1 (.t 104)), Oo 106 (.iarr 1 8 (.t 12) (.k (.c (.int .i64 4)))), Oo 107 (.load false 1 (.t 106)), Oo 14 (.asg (.t 105)), Oo 15 (.asg (.t 107))]
    (.fl 0 (.fl 1 (.fl 2 (.fl 3 (.ch 4 [3] (.ch 5 [] .done)))))) [2, 3, 6, 7, 12, 13, 14, 15])
  (.seq (.regd [Oo 108 (.iarr 1 8 (.t 12) (.k (.c (.int .i64 7)))), Oo 109 (.load false 1 (.t 108)), Oo 110 (.mv (.t 15)), Oo 111 (.call 269 [(.t 110), (.k (.c (.int .u64 6)))]), Oo 112 (.mv (.t 15)), Oo 113 (.call 269 [(.t 112), (.k (.c (.int .u64 11)))]), Oo 114 (.bin .xor (.t 111) (.t 113)), Oo 115 (.mv (.t 15)), Oo 116 (.call 269 [(.t 115), (.k (.c (.int .u64 25)))]), Oo 117 (.bin .xor (.t 114) (.t 116)), Oo 118 (.bin .add (.t 109) (.t 117)), Oo 119 (.mv (.t 15)), Oo 120 (.iarr 1 8 (.t 12) (.k (.c (.int .i64 5)))), Oo 121 (.load false 1 (.t 120)), Oo 122 (.bin .and (.t 119) (.t 121)), Oo 123 (.mv (.t 15)), Oo 124 (.inv (.t 123)), Oo 125 (.iarr 1 8 (.t 12) (.k (.c (.int .i64 6)))), Oo 126 (.load false 1 (.t 125)), Oo 127 (.bin .and (.t 124) (.t 126)), Oo 128 (.bin .xor (.t 122) (.t 127)), Oo 129 (.bin .add (.t 118) (.t 128)), Oo 130 (.mv (.t 2)), Oo 131 (.mv (.t 13)), Oo 132 (.nilck (.t 130)), Oo 133 (.iarr 1 64 (.t 132) (.t 131)), Oo 134 (.load false 1 (.t 133)), Oo 135 (.bin .add (.t 129) (.t 134)), Oo 136 (.mv (.t 13)), Oo 137 (.iarr 1 64 (.t 7) (.t 136)), Oo 138 (.load false 1 (.t 137)), Oo 139 (.bin .add (.t 135) (.t 138)), Oo 16 (.asg (.t 139))]
    (.fl 0 (.fl 1 (.fl 2 (.fl 4 (.fl 7 (.fl 11 (.fl 12 (.fl 13 (.fl 14 (.fl 15 (.fl 16 (.fl 17 (.fl 18 (.fl 19 (.fl 20 (.fl 22 (.fl 23 (.fl 24 (.fl 25 (.fl 26 (.fl 28 (.fl 29 (.fl 30 (.ch 3 [1, 13, 18, 26, 30] (.ch 5 [1, 13, 18, 26, 30] (.fl 6 (.ch 8 [1, 13, 18, 26, 30] (.fl 9 (.fl 10 (.fl 21 (.fl 27 (.fl 31 (.ch 32 [] .done))))))))))))))))))))))))))))))))) [2, 3, 6, 7, 12, 13, 14, 15, 16])
  (.seq (.regd [Oo 140 (.mv (.t 14)), Oo 141 (.call 269 [(.t 140), (.k (.c (.int .u64 2)))]), Oo 142 (.mv (.t 14)), Oo 143 (.call 269 [(.t 142), (.k (.c (.int .u64 13)))]), Oo 144 (.bin .xor (.t 141) (.t 143)), Oo 145 (.mv (.t 14)), Oo 146 (.call 269 [(.t 145), (.k (.c (.int .u64 22)))]), Oo 147 (.bin .xor (.t 144) (.t 146)), Oo 148 (.mv (.t 14)), Oo 149 (.iarr 1 8 (.t 12) (.k (.c (.int .i64 1)))), Oo 150 (.load false 1 (.t 149)), Oo 151 (.bin .and (.t 148) (.t 150)), Oo 152 (.mv (.t 14)), Oo 153 (.iarr 1 8 (.t 12) (.k (.c (.int .i64 2)))), Oo 154 (.load false 1 (.t 153)), Oo 155 (.bin .and (.t 152) (.t 154)), Oo 156 (.bin .xor (.t 151) (.t 155)), Oo 157 (.iarr 1 8 (.t 12) (.k (.c (.int .i64 1)))), Oo 158 (.load false 1 (.t 157)), Oo 159 (.iarr 1 8 (.t 12) (.k (.c (.int .i64 2)))), Oo 160 (.load false 1 (.t 159)), Oo 161 (.bin .and (.t 158) (.t 160)), Oo 162 (.bin .xor (.t 156) (.t 161)), Oo 163 (.bin .add (.t 147) (.t 162)), Oo 17 (.asg (.t 163))]
    (.fl 0 (.fl 2 (.fl 5 (.fl 8 (.fl 9 (.fl 10 (.fl 11 (.fl 12 (.fl 13 (.fl 14 (.fl 15 (.fl 16 (.fl 17 (.fl 18 (.fl 19 (.fl 20 (.fl 21 (.fl 22 (.ch 1 [10, 14, 18, 20] (.ch 3 [10, 14, 18, 20] (.fl 4 (.ch 6 [10, 14, 18, 20] (.fl 7 (.fl 23 (.ch 24 [] .done))))))))))))))))))))))))) [2, 3, 6, 7, 12, 13, 14, 15, 16, 17])
  (.reg [B 164 (.mv (.t 16)), B 165 (.mv (.t 17)), B 166 (.bin .add (.t 164) (.t 165)), B 167 (.mv (.t 14)), B 168 (.iarr 1 8 (.t 12) (.k (.c (.int .i64 1)))), B 169 (.load false 1 (.t 168)), B 170 (.iarr 1 8 (.t 12) (.k (.c (.int .i64 2)))), B 171 (.load false 1 (.t 170)), B 172 (.iarr 1 8 (.t 12) (.k (.c (.int .i64 3)))), B 173 (.load false 1 (.t 172)), B 174 (.mv (.t 16)), B 175 (.bin .add (.t 173) (.t 174)), B 176 (.mv (.t 15)), B 177 (.iarr 1 8 (.t 12) (.k (.c (.int .i64 5)))), B 178 (.load false 1 (.t 177)), B 179 (.iarr 1 8 (.t 12) (.k (.c (.int .i64 6)))), B 180 (.load false 1 (.t 179)), B 181 (.build [.int .u32 0, .int .u32 0, .int .u32 0, .int .u32 0, .int .u32 0, .int .u32 0, .int .u32 0, .int .u32 0] [(0, 1, (.t 166)), (1, 1, (.t 167)), (2, 1, (.t 169)), (3, 1, (.t 171)), (4, 1, (.t 175)), (5, 1, (.t 176)), (6, 1, (.t 178)), (7, 1, (.t 180))]), Bn (.store 8 (.t 12) (.t 181))] [2, 3, 6, 7, 12, 13])))))
  (.reg [B 102 (.mv (.t 13)), B 103 (.bin .add (.t 102) (.k (.c (.int .i64 1)))), B 13 (.asg (.t 103))] [2, 3, 6, 7, 12, 13]))))))
  (.seq (.seq (.reg [B 18 (.asg (.k (.c (.int .i64 0))))] [3, 6, 12, 18])
  (.block 6 (.loop (.seq (.seq (.reg [B 182 (.mv (.t 18)), B 183 (.bin .lt (.t 182) (.k (.c (.int .i64 8))))] [3, 6, 12, 18, 183])
  (.cond (.t 183) .skip
  (.exit 6)))
  (.seq (.block 7 (.regd [Oo 186 (.mv (.t 18)), Oo 187 (.mv (.t 18)), Oo 188 (.iarr 1 8 (.t 3) (.t 187)), Oo 189 (.load false 1 (.t 188)), Oo 190 (.mv (.t 18)), Oo 191 (.iarr 1 8 (.t 12) (.t 190)), Oo 192 (.load false 1 (.t 191)), Oo 193 (.bin .add (.t 189) (.t 192)), Oo 194 (.iarr 1 8 (.t 3) (.t 186)), On (.store 1 (.t 194) (.t 193))]
    (.fl 0 (.fl 1 (.fl 2 (.fl 3 (.fl 4 (.fl 5 (.fl 6 (.fl 7 (.fl 8 (.ch 9 [] .done)))))))))) [3, 6, 12, 18]))
  (.reg [B 184 (.mv (.t 18)), B 185 (.bin .add (.t 184) (.k (.c (.int .i64 1)))), B 18 (.asg (.t 185))] [3, 6, 12, 18]))))))
  (.seq (.reg [B 195 (.load true 8 (.t 3)), Bn (.store 8 (.t 6) (.t 195))] [6])
  .ret))))))))
def r220 : List ARes := [.cell 6 true 8]
theorem k220 : bChk Tryz.prog 220 Tryz.f220 3 c220 r220 = true := by kernel_rfl
theorem p220 : Tryz.prog.funcs[220]? = some Tryz.f220 := by kernel_rfl

/-- scrivener/scrivenerref2.Chain -/
def c221 : BCode :=
  (.seq (.reg [B 2 (.boxR (.t 0)), B 4 (.alloc [.int .u8 0, .int .u8 0, .int .u8 0, .int .u8 0, .int .u8 0, .int .u8 0, .int .u8 0, .int .u8 0, .int .u8 0, .int .u8 0, .int .u8 0, .int .u8 0, .int .u8 0, .int .u8 0, .int .u8 0, .int .u8 0, .int .u8 0, .int .u8 0, .int .u8 0, .int .u8 0, .int .u8 0, .int .u8 0, .int .u8 0, .int .u8 0, .int .u8 0, .int .u8 0, .int .u8 0, .int .u8 0, .int .u8 0, .int .u8 0, .int .u8 0, .int .u8 0])] [1, 2, 4])
  (.seq (.reg [B 5 (.slR 1 1 [.int .u8 0] [(0, 1, (.k (.c (.int .u8 2))))]), B 6 (.aslice 1 32 (.t 2)), B 7 (.app 1 1 (.t 5) (.t 6)), B 8 (.mv (.t 1)), B 9 (.app 1 1 (.t 7) (.t 8)), B 10 (.call 173 [(.t 9)]), Bn (.store 32 (.t 4) (.t 10))] [4])
  .ret))
def r221 : List ARes := [.cell 4 true 32]
theorem k221 : bChk Tryz.prog 221 Tryz.f221 2 c221 r221 = true := by kernel_rfl
theorem p221 : Tryz.prog.funcs[221]? = some Tryz.f221 := by kernel_rfl

/-- (*scrivener/scrivenerref14.Catalog).Find -/
def c236 : BCode :=
  (.seq (.reg [B 4 (.alloc [.int .i64 0, .str [], .bool false, .sl 1 [] .nil]), B 5 (.asg (.k (.c (.int .i64 0))))] [0, 1, 4])
  (.seq (.seq (.reg [B 6 (.asg (.k (.c (.int .i64 0))))] [0, 1, 4, 6])
  (.block 0 (.loop (.seq (.seq (.reg [B 7 (.mv (.t 6)), B 8 (.mv (.t 0)), B 9 (.nilck (.t 8)), B 10 (.fadr 0 (.t 9)), B 11 (.load false 1 (.t 10)), B 12 (.len (.t 11)), B 13 (.bin .lt (.t 7) (.t 12))] [0, 1, 4, 6, 13])
  (.cond (.t 13) .skip
  (.exit 0)))
  (.seq (.block 1 (.seq (.reg [B 16 (.mv (.t 0)), B 17 (.nilck (.t 16)), B 18 (.fadr 0 (.t 17)), B 19 (.load false 1 (.t 18)), B 20 (.mv (.t 6)), B 21 (.iadr 4 (.t 19) (.t 20)), B 22 (.fadr 2 (.t 21)), B 23 (.load false 1 (.t 22)), B 24 (.not (.t 23)), B 25 (.mv (.t 24)), Bg 26 (.mv (.t 0)) 25 true, Bg 27 (.nilck (.t 26)) 25 true, Bg 28 (.fadr 0 (.t 27)) 25 true, Bg 29 (.load false 1 (.t 28)) 25 true, Bg 30 (.mv (.t 6)) 25 true, Bg 31 (.iadr 4 (.t 29) (.t 30)) 25 true, Bg 32 (.fadr 1 (.t 31)) 25 true, Bg 33 (.load false 1 (.t 32)) 25 true, Bg 34 (.mv (.t 1)) 25 true, Bg 35 (.bin .seq (.t 33) (.t 34)) 25 true, B 36 (.pick (.t 25) (.t 35) (.k (.c (.bool false))))] [0, 1, 4, 6, 36])
  (.cond (.t 36) (.seq (.reg [B 37 (.mv (.t 0)), B 38 (.nilck (.t 37)), B 39 (.fadr 0 (.t 38)), B 40 (.load false 1 (.t 39)), B 41 (.mv (.t 6)), B 42 (.iadr 4 (.t 40) (.t 41)), B 43 (.load true 4 (.t 42)), Bn (.store 4 (.t 4) (.t 43)), B 5 (.asg (.k (.c (.int .i64 0))))] [4, 5])
  .ret)
  .skip)))
  (.reg [B 14 (.mv (.t 6)), B 15 (.bin .add (.t 14) (.k (.c (.int .i64 1)))), B 6 (.asg (.t 15))] [0, 1, 4, 6]))))))
  (.seq (.reg [B 44 (.build [.int .i64 0, .str [], .bool false, .sl 1 [] .nil] []), Bn (.store 4 (.t 4) (.t 44)), B 5 (.asg (.k (.c (.int .i64 13))))] [4, 5])
  .ret)))
def r236 : List ARes := [.cell 4 true 4, .tmp 5]
theorem k236 : bChk Tryz.prog 236 Tryz.f236 2 c236 r236 = true := by kernel_rfl
theorem p236 : Tryz.prog.funcs[236]? = some Tryz.f236 := by kernel_rfl

/-- scrivener/scrivenerref10.half -/
def c241 : BCode :=
  (.seq (.reg [B 2 (.asg (.k (.c (.int .i64 0))))] [0])
  (.seq (.reg [B 3 (.asg (.k (.c (.int .i64 1))))] [0, 3])
  (.seq (.block 0 (.loop (.seq (.seq (.reg [B 4 (.mv (.t 3)), B 5 (.mv (.t 0)), B 6 (.mv (.t 3)), B 7 (.bin .sub (.t 5) (.t 6)), B 8 (.bin .lt (.t 4) (.t 7))] [0, 3, 8])
  (.cond (.t 8) .skip
  (.exit 0)))
  (.block 1 (.reg [B 9 (.mv (.t 3)), B 10 (.bin .mul (.k (.c (.int .i64 2))) (.t 9)), B 3 (.asg (.t 10))] [0, 3])))))
  (.seq (.reg [B 11 (.mv (.t 3)), B 2 (.asg (.t 11))] [2])
  .ret))))
def r241 : List ARes := [.tmp 2]
theorem k241 : bChk Tryz.prog 241 Tryz.f241 1 c241 r241 = true := by kernel_rfl
theorem p241 : Tryz.prog.funcs[241]? = some Tryz.f241 := by kernel_rfl

/-- scrivener/scrivenerref2.Node -/
def c242 : BCode :=
  (.seq (.reg [B 2 (.boxR (.t 0)), B 3 (.boxR (.t 1)), B 4 (.alloc [.int .u8 0, .int .u8 0, .int .u8 0, .int .u8 0, .int .u8 0, .int .u8 0, .int .u8 0, .int .u8 0, .int .u8 0, .int .u8 0, .int .u8 0, .int .u8 0, .int .u8 0, .int .u8 0, .int .u8 0, .int .u8 0, .int .u8 0, .int .u8 0, .int .u8 0, .int .u8 0, .int .u8 0, .int .u8 0, .int .u8 0, .int .u8 0, .int .u8 0, .int .u8 0, .int .u8 0, .int .u8 0, .int .u8 0, .int .u8 0, .int .u8 0, .int .u8 0])] [2, 3, 4])
  (.seq (.regd [Oo 5 (.slR 1 1 [.int .u8 0] [(0, 1, (.k (.c (.int .u8 1))))]), Oo 6 (.aslice 1 32 (.t 2)), Oo 7 (.app 1 1 (.t 5) (.t 6)), Oo 8 (.aslice 1 32 (.t 3)), Oo 9 (.app 1 1 (.t 7) (.t 8)), Oo 10 (.call 173 [(.t 9)]), On (.store 32 (.t 4) (.t 10))]
    (.fl 0 (.fl 1 (.fl 3 (.ch 2 [] (.ch 4 [] (.ch 5 [] (.ch 6 [] .done))))))) [4])
  .ret))
def r242 : List ARes := [.cell 4 true 32]
theorem k242 : bChk Tryz.prog 242 Tryz.f242 2 c242 r242 = true := by kernel_rfl
theorem p242 : Tryz.prog.funcs[242]? = some Tryz.f242 := by kernel_rfl

/-- scrivener/scrivenerref2.Leaf -/
def c244 : BCode :=
  (.seq (.reg [B 2 (.alloc [.int .u8 0, .int .u8 0, .int .u8 0, .int .u8 0, .int .u8 0, .int .u8 0, .int .u8 0, .int .u8 0, .int .u8 0, .int .u8 0, .int .u8 0, .int .u8 0, .int .u8 0, .int .u8 0, .int .u8 0, .int .u8 0, .int .u8 0, .int .u8 0, .int .u8 0, .int .u8 0, .int .u8 0, .int .u8 0, .int .u8 0, .int .u8 0, .int .u8 0, .int .u8 0, .int .u8 0, .int .u8 0, .int .u8 0, .int .u8 0, .int .u8 0, .int .u8 0])] [0, 2])
  (.seq (.reg [B 3 (.slR 1 1 [.int .u8 0] [(0, 1, (.k (.c (.int .u8 0))))]), B 4 (.mv (.t 0)), B 5 (.app 1 1 (.t 3) (.t 4)), B 6 (.call 173 [(.t 5)]), Bn (.store 32 (.t 2) (.t 6))] [2])
  .ret))
def r244 : List ARes := [.cell 2 true 32]
theorem k244 : bChk Tryz.prog 244 Tryz.f244 1 c244 r244 = true := by kernel_rfl
theorem p244 : Tryz.prog.funcs[244]? = some Tryz.f244 := by kernel_rfl

/-- scrivener/scrivenerref11.Bytes -/
def c245 : BCode :=
  (.seq (.reg [B 1 (.boxR (.t 0)), B 2 (.asg (.k (.c (.sl 1 [] .nil))))] [1])
  (.seq (.reg [B 4 (.fadr 0 (.t 1)), B 5 (.load false 1 (.t 4)), B 6 (.conv .u8 (.t 5)), B 7 (.slR 1 1 [.int .u8 0] [(0, 1, (.t 6))]), B 3 (.asg (.t 7))] [1, 3])
  (.seq (.reg [B 8 (.mv (.t 3)), B 9 (.fadr 2 (.t 1)), B 10 (.load false 1 (.t 9)), B 11 (.conv .u64 (.t 10)), B 12 (.call 304 [(.t 11)]), B 13 (.app 1 1 (.t 8) (.t 12)), B 3 (.asg (.t 13))] [1, 3])
  (.seq (.reg [B 14 (.mv (.t 3)), B 15 (.fadr 3 (.t 1)), B 16 (.load false 1 (.t 15)), B 17 (.conv .u64 (.t 16)), B 18 (.call 304 [(.t 17)]), B 19 (.app 1 1 (.t 14) (.t 18)), B 3 (.asg (.t 19))] [1, 3])
  (.seq (.reg [B 20 (.mv (.t 3)), B 21 (.fadr 4 (.t 1)), B 22 (.load false 1 (.t 21)), B 23 (.conv .u64 (.t 22)), B 24 (.call 304 [(.t 23)]), B 25 (.app 1 1 (.t 20) (.t 24)), B 3 (.asg (.t 25))] [1, 3])
  (.seq (.reg [B 26 (.mv (.t 3)), B 27 (.fadr 1 (.t 1)), B 28 (.load false 1 (.t 27)), B 29 (.slen (.t 28)), B 30 (.conv .u64 (.t 29)), B 31 (.call 304 [(.t 30)]), B 32 (.app 1 1 (.t 26) (.t 31)), B 3 (.asg (.t 32))] [1, 3])
  (.seq (.reg [B 33 (.mv (.t 3)), B 34 (.fadr 1 (.t 1)), B 35 (.load false 1 (.t 34)), B 36 (.app 1 1 (.t 33) (.t 35)), B 3 (.asg (.t 36))] [1, 3])
  (.seq (.reg [B 37 (.mv (.t 3)), B 38 (.fadr 44 (.t 1)), B 39 (.fadr 0 (.t 38)), B 40 (.load false 1 (.t 39)), B 41 (.conv .u64 (.t 40)), B 42 (.call 304 [(.t 41)]), B 43 (.app 1 1 (.t 37) (.t 42)), B 3 (.asg (.t 43))] [1, 3])
  (.seq (.reg [B 44 (.mv (.t 3)), B 45 (.fadr 44 (.t 1)), B 46 (.fadr 1 (.t 45)), B 47 (.load false 1 (.t 46)), B 48 (.conv .u64 (.t 47)), B 49 (.call 304 [(.t 48)]), B 50 (.app 1 1 (.t 44) (.t 49)), B 3 (.asg (.t 50))] [1, 3])
  (.seq (.seq (.reg [B 51 (.fadr 0 (.t 1)), B 52 (.load false 1 (.t 51)), B 53 (.bin .eq (.t 52) (.k (.c (.int .i64 2))))] [1, 3, 53])
  (.cond (.t 53) (.reg [B 54 (.mv (.t 3)), B 55 (.fadr 11 (.t 1)), B 56 (.aslice 1 32 (.t 55)), B 57 (.app 1 1 (.t 54) (.t 56)), B 3 (.asg (.t 57))] [3])
  .skip))
  (.seq (.reg [B 58 (.mv (.t 3)), B 2 (.asg (.t 58))] [2])
  .ret)))))))))))
def r245 : List ARes := [.tmp 2]
theorem k245 : bChk Tryz.prog 245 Tryz.f245 1 c245 r245 = true := by kernel_rfl
theorem p245 : Tryz.prog.funcs[245]? = some Tryz.f245 := by kernel_rfl

/-- scrivener/scrivenerref11.head -/
def c246 : BCode :=
  (.seq (.reg [B 1 (.boxR (.t 0)), B 2 (.asg (.k (.c (.sl 1 [] .nil))))] [1])
  (.seq (.reg [B 3 (.asg (.k (.c (.sl 1 [] .nil))))] [1, 3])
  (.seq (.reg [B 6 (.fadr 0 (.t 1)), B 7 (.load false 1 (.t 6)), B 8 (.fadr 1 (.t 1)), B 9 (.load false 1 (.t 8)), B 10 (.fadr 2 (.t 1)), B 11 (.load false 1 (.t 10)), B 12 (.slR 1 3 [.int .i64 0, .int .i64 0, .int .i64 0] [(0, 1, (.t 7)), (1, 1, (.t 9)), (2, 1, (.t 11))]), B 4 (.asg (.t 12))] [1, 3, 4])
  (.seq (.seq (.reg [B 5 (.asg (.k (.c (.int .i64 0))))] [1, 3, 4, 5])
  (.block 0 (.loop (.seq (.seq (.reg [B 13 (.mv (.t 5)), B 14 (.bin .lt (.t 13) (.k (.c (.int .i64 3))))] [1, 3, 4, 5, 14])
  (.cond (.t 14) .skip
  (.exit 0)))
  (.seq (.block 1 (.reg [B 17 (.mv (.t 3)), B 18 (.mv (.t 4)), B 19 (.mv (.t 5)), B 20 (.iadr 1 (.t 18) (.t 19)), B 21 (.load false 1 (.t 20)), B 22 (.mm true (.k (.c (.int .i64 0))) (.t 21)), B 23 (.conv .u64 (.t 22)), B 24 (.call 57 [(.t 23)]), B 25 (.app 1 1 (.t 17) (.t 24)), B 3 (.asg (.t 25))] [1, 3, 4, 5]))
  (.reg [B 15 (.mv (.t 5)), B 16 (.bin .add (.t 15) (.k (.c (.int .i64 1)))), B 5 (.asg (.t 16))] [1, 3, 4, 5]))))))
  (.seq (.reg [B 26 (.mv (.t 3)), B 27 (.fadr 3 (.t 1)), B 28 (.aslice 1 32 (.t 27)), B 29 (.app 1 1 (.t 26) (.t 28)), B 2 (.asg (.t 29))] [2])
  .ret)))))
def r246 : List ARes := [.tmp 2]
theorem k246 : bChk Tryz.prog 246 Tryz.f246 1 c246 r246 = true := by kernel_rfl
theorem p246 : Tryz.prog.funcs[246]? = some Tryz.f246 := by kernel_rfl

/-- (*scrivener/scrivenerref11.reader).number -/
def c248 : BCode :=
  (.seq (.reg [B 2 (.asg (.k (.c (.int .i64 0))))] [0])
  (.seq (.seq (.reg [B 6 (.mv (.t 0)), B 7 (.nilck (.t 6)), B 8 (.fadr 1 (.t 7)), B 9 (.load false 1 (.t 8)), B 10 (.bin .ne (.t 9) (.k (.c (.int .i64 0))))] [0, 10])
  (.cond (.t 10) (.seq (.reg [B 2 (.asg (.k (.c (.int .i64 0))))] [2])
  .ret)
  .skip))
  (.seq (.reg [B 12 (.mv (.t 0)), B 13 (.nilck (.t 12)), B 14 (.fadr 0 (.t 13)), B 15 (.load false 1 (.t 14)), B 16 (.call 115 [(.t 15)]), B 11 (.mv (.t 16)), B 17 (.extract 0 (.t 11)), B 18 (.extract 1 (.t 11)), B 19 (.extract 2 (.t 11)), B 3 (.asg (.t 17)), B 4 (.asg (.t 18)), B 5 (.asg (.t 19))] [0, 3, 4, 5])
  (.seq (.seq (.reg [B 20 (.mv (.t 5)), B 21 (.bin .eq (.t 20) (.k (.c (.int .i64 0)))), B 22 (.mv (.t 21)), Bg 23 (.mv (.t 3)) 22 true, Bg 24 (.bin .gt (.t 23) (.k (.c (.int .u64 9007199254740992)))) 22 true, B 25 (.pick (.t 22) (.t 24) (.k (.c (.bool false))))] [0, 3, 4, 5, 25])
  (.cond (.t 25) (.reg [B 5 (.asg (.k (.c (.int .i64 3))))] [0, 3, 4, 5])
  .skip))
  (.seq (.seq (.reg [B 26 (.mv (.t 5)), B 27 (.bin .ne (.t 26) (.k (.c (.int .i64 0))))] [0, 3, 4, 5, 27])
  (.cond (.t 27) (.seq (.reg [B 28 (.mv (.t 0)), B 29 (.mv (.t 5)), B 30 (.nilck (.t 28)), B 31 (.fadr 1 (.t 30)), Bn (.store 1 (.t 31) (.t 29))] [])
  (.seq (.reg [B 2 (.asg (.k (.c (.int .i64 0))))] [2])
  .ret))
  .skip))
  (.seq (.reg [B 32 (.mv (.t 0)), B 33 (.mv (.t 0)), B 34 (.nilck (.t 33)), B 35 (.fadr 0 (.t 34)), B 36 (.load false 1 (.t 35)), B 37 (.mv (.t 4)), B 38 (.slice 1 (.t 36) (some (.t 37)) none none), B 39 (.nilck (.t 32)), B 40 (.fadr 0 (.t 39)), Bn (.store 1 (.t 40) (.t 38))] [3])
  (.seq (.reg [B 41 (.mv (.t 3)), B 42 (.conv .i64 (.t 41)), B 2 (.asg (.t 42))] [2])
  .ret)))))))
def r248 : List ARes := [.tmp 2]
theorem k248 : bChk Tryz.prog 248 Tryz.f248 1 c248 r248 = true := by kernel_rfl
theorem p248 : Tryz.prog.funcs[248]? = some Tryz.f248 := by kernel_rfl

/-- (*scrivener/scrivenerref11.reader).hash -/
def c249 : BCode :=
  (.seq (.reg [B 2 (.alloc [.int .u8 0, .int .u8 0, .int .u8 0, .int .u8 0, .int .u8 0, .int .u8 0, .int .u8 0, .int .u8 0, .int .u8 0, .int .u8 0, .int .u8 0, .int .u8 0, .int .u8 0, .int .u8 0, .int .u8 0, .int .u8 0, .int .u8 0, .int .u8 0, .int .u8 0, .int .u8 0, .int .u8 0, .int .u8 0, .int .u8 0, .int .u8 0, .int .u8 0, .int .u8 0, .int .u8 0, .int .u8 0, .int .u8 0, .int .u8 0, .int .u8 0, .int .u8 0])] [0, 2])
  (.seq (.reg [B 3 (.alloc [.int .u8 0, .int .u8 0, .int .u8 0, .int .u8 0, .int .u8 0, .int .u8 0, .int .u8 0, .int .u8 0, .int .u8 0, .int .u8 0, .int .u8 0, .int .u8 0, .int .u8 0, .int .u8 0, .int .u8 0, .int .u8 0, .int .u8 0, .int .u8 0, .int .u8 0, .int .u8 0, .int .u8 0, .int .u8 0, .int .u8 0, .int .u8 0, .int .u8 0, .int .u8 0, .int .u8 0, .int .u8 0, .int .u8 0, .int .u8 0, .int .u8 0, .int .u8 0])] [0, 2, 3])
  (.seq (.regd [Oo 4 (.aslice 1 32 (.t 3)), Oo 5 (.mv (.t 0)), Oo 6 (.call 305 [(.t 5), (.k (.c (.int .i64 32)))]), Oo 7 (.cpy 1 (.t 4) (.t 6))]
    (.fl 0 (.fl 1 (.ch 2 [] (.ch 3 [] .done)))) [2, 3])
  (.seq (.reg [B 8 (.load true 32 (.t 3)), Bn (.store 32 (.t 2) (.t 8))] [2])
  .ret))))
def r249 : List ARes := [.cell 2 true 32]
theorem k249 : bChk Tryz.prog 249 Tryz.f249 1 c249 r249 = true := by kernel_rfl
theorem p249 : Tryz.prog.funcs[249]? = some Tryz.f249 := by kernel_rfl

/-- (*scrivener/scrivenerref11.reader).entry -/
def c250 : BCode :=
  (.seq (.reg [B 2 (.alloc [.int .i64 0, .str [], .int .i64 0, .int .i64 0, .int .i64 0, .int .i64 0, .int .i64 0, .int .i64 0, .str [], .sl 1 [] .nil, .sl 6 [] .nil, .int .u8 0, .int .u8 0, .int .u8 0, .int .u8 0, .int .u8 0, .int .u8 0, .int .u8 0, .int .u8 0, .int .u8 0, .int .u8 0, .int .u8 0, .int .u8 0, .int .u8 0, .int .u8 0, .int .u8 0, .int .u8 0, .int .u8 0, .int .u8 0, .int .u8 0, .int .u8 0, .int .u8 0, .int .u8 0, .int .u8 0, .int .u8 0, .int .u8 0, .int .u8 0, .int .u8 0, .int .u8 0, .int .u8 0, .int .u8 0, .int .u8 0, .int .u8 0, .bool false, .int .i64 0, .int .i64 0])] [0, 2])
  (.seq (.reg [B 3 (.alloc [.int .i64 0, .str [], .int .i64 0, .int .i64 0, .int .i64 0, .int .i64 0, .int .i64 0, .int .i64 0, .str [], .sl 1 [] .nil, .sl 6 [] .nil, .int .u8 0, .int .u8 0, .int .u8 0, .int .u8 0, .int .u8 0, .int .u8 0, .int .u8 0, .int .u8 0, .int .u8 0, .int .u8 0, .int .u8 0, .int .u8 0, .int .u8 0, .int .u8 0, .int .u8 0, .int .u8 0, .int .u8 0, .int .u8 0, .int .u8 0, .int .u8 0, .int .u8 0, .int .u8 0, .int .u8 0, .int .u8 0, .int .u8 0, .int .u8 0, .int .u8 0, .int .u8 0, .int .u8 0, .int .u8 0, .int .u8 0, .int .u8 0, .bool false, .int .i64 0, .int .i64 0])] [0, 2, 3])
  (.seq (.reg [B 9 (.mv (.t 0)), B 10 (.call 305 [(.t 9), (.k (.c (.int .i64 1)))]), B 11 (.iadr 1 (.t 10) (.k (.c (.int .i64 0)))), B 12 (.load false 1 (.t 11)), B 13 (.conv .i64 (.t 12)), B 14 (.fadr 0 (.t 3)), Bn (.store 1 (.t 14) (.t 13))] [0, 2, 3])
  (.seq (.reg [B 15 (.mv (.t 0)), B 16 (.call 248 [(.t 15)]), B 17 (.fadr 2 (.t 3)), Bn (.store 1 (.t 17) (.t 16))] [0, 2, 3])
  (.seq (.reg [B 18 (.mv (.t 0)), B 19 (.call 248 [(.t 18)]), B 20 (.fadr 3 (.t 3)), Bn (.store 1 (.t 20) (.t 19))] [0, 2, 3])
  (.seq (.reg [B 21 (.mv (.t 0)), B 22 (.call 248 [(.t 21)]), B 23 (.fadr 4 (.t 3)), Bn (.store 1 (.t 23) (.t 22))] [0, 2, 3])
  (.seq (.reg [B 24 (.mv (.t 0)), B 25 (.call 248 [(.t 24)]), B 4 (.asg (.t 25))] [0, 2, 3, 4])
  (.seq (.seq (.reg [B 26 (.mv (.t 0)), B 27 (.nilck (.t 26)), B 28 (.fadr 1 (.t 27)), B 29 (.load false 1 (.t 28)), B 30 (.bin .ne (.t 29) (.k (.c (.int .i64 0))))] [0, 2, 3, 4, 30])
  (.cond (.t 30) (.seq (.reg [B 31 (.load true 46 (.t 3)), Bn (.store 46 (.t 2) (.t 31))] [2])
  .ret)
  .skip))
  (.seq (.reg [B 32 (.mv (.t 0)), B 33 (.mv (.t 4)), B 34 (.call 305 [(.t 32), (.t 33)]), B 35 (.bytess (.t 34)), B 36 (.fadr 1 (.t 3)), Bn (.store 1 (.t 36) (.t 35))] [0, 2, 3])
  (.seq (.reg [B 37 (.mv (.t 0)), B 38 (.call 248 [(.t 37)]), B 39 (.fadr 44 (.t 3)), B 40 (.fadr 0 (.t 39)), Bn (.store 1 (.t 40) (.t 38))] [0, 2, 3])
  (.seq (.reg [B 41 (.mv (.t 0)), B 42 (.call 248 [(.t 41)]), B 43 (.fadr 44 (.t 3)), B 44 (.fadr 1 (.t 43)), Bn (.store 1 (.t 44) (.t 42))] [0, 2, 3])
  (.seq (.seq (.reg [B 45 (.mv (.t 0)), B 46 (.nilck (.t 45)), B 47 (.fadr 1 (.t 46)), B 48 (.load false 1 (.t 47)), B 49 (.bin .ne (.t 48) (.k (.c (.int .i64 0)))), B 50 (.mv (.t 49)), Bg 51 (.fadr 0 (.t 3)) 50 false, Bg 52 (.load false 1 (.t 51)) 50 false, Bg 53 (.bin .ne (.t 52) (.k (.c (.int .i64 2)))) 50 false, B 54 (.pick (.t 50) (.k (.c (.bool true))) (.t 53))] [0, 2, 3, 54])
  (.cond (.t 54) (.seq (.reg [B 55 (.load true 46 (.t 3)), Bn (.store 46 (.t 2) (.t 55))] [2])
  .ret)
  .skip))
  (.seq (.reg [B 56 (.mv (.t 0)), B 57 (.call 249 [(.t 56)]), B 58 (.fadr 11 (.t 3)), Bn (.store 32 (.t 58) (.t 57))] [0, 2, 3])
  (.seq (.seq (.reg [B 59 (.mv (.t 0)), B 60 (.call 305 [(.t 59), (.k (.c (.int .i64 1)))]), B 61 (.iadr 1 (.t 60) (.k (.c (.int .i64 0)))), B 62 (.load false 1 (.t 61))] [0, 2, 3, 62])
  (.block 0 (.seq (.reg [B 72 (.bin .eq (.t 62) (.k (.c (.int .u8 0)))), B 71 (.asg (.t 72))] [0, 2, 3, 62, 71])
  (.cond (.t 71) (.reg [B 73 (.fadr 43 (.t 3)), Bn (.store 1 (.t 73) (.k (.c (.bool true))))] [2, 3])
  (.seq (.reg [B 75 (.bin .eq (.t 62) (.k (.c (.int .u8 1)))), B 74 (.asg (.t 75))] [0, 2, 3, 74])
  (.cond (.t 74) (.seq (.reg [B 76 (.mv (.t 0)), B 77 (.call 248 [(.t 76)]), B 5 (.asg (.t 77))] [0, 2, 3, 5])
  (.seq (.seq (.reg [B 78 (.mv (.t 0)), B 79 (.nilck (.t 78)), B 80 (.fadr 1 (.t 79)), B 81 (.load false 1 (.t 80)), B 82 (.bin .ne (.t 81) (.k (.c (.int .i64 0))))] [0, 2, 3, 5, 82])
  (.cond (.t 82) (.seq (.reg [B 83 (.load true 46 (.t 3)), Bn (.store 46 (.t 2) (.t 83))] [2])
  .ret)
  .skip))
  (.seq (.reg [B 84 (.mv (.t 0)), B 85 (.mv (.t 5)), B 86 (.call 305 [(.t 84), (.t 85)]), B 6 (.asg (.t 86))] [0, 2, 3, 6])
  (.seq (.seq (.reg [B 87 (.mv (.t 0)), B 88 (.nilck (.t 87)), B 89 (.fadr 1 (.t 88)), B 90 (.load false 1 (.t 89)), B 91 (.bin .ne (.t 90) (.k (.c (.int .i64 0))))] [0, 2, 3, 6, 91])
  (.cond (.t 91) (.seq (.reg [B 92 (.load true 46 (.t 3)), Bn (.store 46 (.t 2) (.t 92))] [2])
  .ret)
  .skip))
  (.seq (.reg [B 94 (.mv (.t 6)), B 95 (.call 75 [(.t 94)]), B 93 (.mv (.t 95)), B 96 (.extract 0 (.t 93)), B 97 (.extract 1 (.t 93)), B 7 (.alloc [.int .i64 0, .int .i64 0, .int .i64 0, .str [], .sl 1 [] .nil, .sl 6 [] .nil]), Bn (.store 6 (.t 7) (.t 96)), B 8 (.asg (.t 97))] [0, 2, 3, 7, 8])
  (.seq (.seq (.reg [B 98 (.mv (.t 8)), B 99 (.bin .ne (.t 98) (.k (.c (.int .i64 0))))] [0, 2, 3, 7, 99])
  (.cond (.t 99) (.reg [B 100 (.mv (.t 0)), B 101 (.nilck (.t 100)), B 102 (.fadr 1 (.t 101)), Bn (.store 1 (.t 102) (.k (.c (.int .i64 3))))] [2, 3, 7])
  .skip))
  (.reg [B 103 (.load true 6 (.t 7)), B 104 (.fadr 5 (.t 3)), Bn (.store 6 (.t 104) (.t 103))] [2, 3])))))))
  (.seq (.reg [B 63 (.mv (.t 0)), B 64 (.nilck (.t 63)), B 65 (.fadr 1 (.t 64)), B 66 (.load false 1 (.t 65)), B 67 (.bin .eq (.t 66) (.k (.c (.int .i64 0))))] [0, 2, 3, 67])
  (.cond (.t 67) (.reg [B 68 (.mv (.t 0)), B 69 (.nilck (.t 68)), B 70 (.fadr 1 (.t 69)), Bn (.store 1 (.t 70) (.k (.c (.int .i64 3))))] [2, 3])
  .skip))))))))
  (.seq (.reg [B 105 (.load true 46 (.t 3)), Bn (.store 46 (.t 2) (.t 105))] [2])
  .ret)))))))))))))))
def r250 : List ARes := [.cell 2 true 46]
theorem k250 : bChk Tryz.prog 250 Tryz.f250 1 c250 r250 = true := by kernel_rfl
theorem p250 : Tryz.prog.funcs[250]? = some Tryz.f250 := by kernel_rfl

/-- scrivener/scrivenerref11.Entries -/
def c251 : BCode :=
  (.seq (.reg [B 2 (.boxR (.t 0)), B 4 (.alloc [.int .u8 0, .int .u8 0, .int .u8 0, .int .u8 0, .int .u8 0, .int .u8 0, .int .u8 0, .int .u8 0, .int .u8 0, .int .u8 0, .int .u8 0, .int .u8 0, .int .u8 0, .int .u8 0, .int .u8 0, .int .u8 0, .int .u8 0, .int .u8 0, .int .u8 0, .int .u8 0, .int .u8 0, .int .u8 0, .int .u8 0, .int .u8 0, .int .u8 0, .int .u8 0, .int .u8 0, .int .u8 0, .int .u8 0, .int .u8 0, .int .u8 0, .int .u8 0])] [1, 2, 4])
  (.seq (.regd [Oo 5 (.load true 32 (.t 2)), Oo 6 (.mv (.t 1)), Oo 7 (.conv .u64 (.t 6)), Oo 8 (.call 57 [(.t 7)]), Oo 9 (.call 221 [(.t 5), (.t 8)]), On (.store 32 (.t 4) (.t 9))]
    (.fl 0 (.fl 1 (.fl 2 (.ch 3 [0] (.ch 4 [] (.ch 5 [] .done)))))) [4])
  .ret))
def r251 : List ARes := [.cell 4 true 32]
theorem k251 : bChk Tryz.prog 251 Tryz.f251 2 c251 r251 = true := by kernel_rfl
theorem p251 : Tryz.prog.funcs[251]? = some Tryz.f251 := by kernel_rfl

/-- scrivener/scrivenerref12.name -/
def c252 : BCode :=
  (.seq (.reg [B 2 (.asg (.k (.c (.str []))))] [0])
  (.seq (.reg [B 4 (.mv (.t 0)), B 5 (.conv .u64 (.t 4)), B 6 (.call 155 [(.t 5)]), B 3 (.asg (.t 6))] [3])
  (.seq (.block 0 (.loop (.seq (.seq (.reg [B 7 (.mv (.t 3)), B 8 (.slen (.t 7)), B 9 (.bin .lt (.t 8) (.k (.c (.int .i64 8))))] [3, 9])
  (.cond (.t 9) .skip
  (.exit 0)))
  (.block 1 (.reg [B 10 (.mv (.t 3)), B 11 (.bin .sadd (.k (.c (.str [48]))) (.t 10)), B 3 (.asg (.t 11))] [3])))))
  (.seq (.reg [B 12 (.mv (.t 3)), B 13 (.bin .sadd (.k (.c (.str [100]))) (.t 12)), B 2 (.asg (.t 13))] [2])
  .ret))))
def r252 : List ARes := [.tmp 2]
theorem k252 : bChk Tryz.prog 252 Tryz.f252 1 c252 r252 = true := by kernel_rfl
theorem p252 : Tryz.prog.funcs[252]? = some Tryz.f252 := by kernel_rfl

/-- scrivener/scrivenerref7.Hash -/
def c253 : BCode :=
  (.seq (.reg [B 1 (.boxR (.t 0)), B 2 (.alloc [.int .u8 0, .int .u8 0, .int .u8 0, .int .u8 0, .int .u8 0, .int .u8 0, .int .u8 0, .int .u8 0, .int .u8 0, .int .u8 0, .int .u8 0, .int .u8 0, .int .u8 0, .int .u8 0, .int .u8 0, .int .u8 0, .int .u8 0, .int .u8 0, .int .u8 0, .int .u8 0, .int .u8 0, .int .u8 0, .int .u8 0, .int .u8 0, .int .u8 0, .int .u8 0, .int .u8 0, .int .u8 0, .int .u8 0, .int .u8 0, .int .u8 0, .int .u8 0]), B 3 (.asg (.k (.c (.int .i64 0))))] [1, 2])
  (.seq (.reg [B 7 (.load true 6 (.t 1)), B 8 (.call 58 [(.t 7)]), B 6 (.mv (.t 8)), B 9 (.extract 0 (.t 6)), B 10 (.extract 1 (.t 6)), B 4 (.asg (.t 9)), B 5 (.asg (.t 10))] [2, 4, 5])
  (.seq (.seq (.reg [B 11 (.mv (.t 5)), B 12 (.bin .ne (.t 11) (.k (.c (.int .i64 0))))] [2, 4, 5, 12])
  (.cond (.t 12) (.seq (.reg [B 13 (.build [.int .u8 0, .int .u8 0, .int .u8 0, .int .u8 0, .int .u8 0, .int .u8 0, .int .u8 0, .int .u8 0, .int .u8 0, .int .u8 0, .int .u8 0, .int .u8 0, .int .u8 0, .int .u8 0, .int .u8 0, .int .u8 0, .int .u8 0, .int .u8 0, .int .u8 0, .int .u8 0, .int .u8 0, .int .u8 0, .int .u8 0, .int .u8 0, .int .u8 0, .int .u8 0, .int .u8 0, .int .u8 0, .int .u8 0, .int .u8 0, .int .u8 0, .int .u8 0] []), B 14 (.mv (.t 5)), Bn (.store 32 (.t 2) (.t 13)), B 3 (.asg (.t 14))] [2, 3])
  .ret)
  .skip))
  (.seq (.reg [B 15 (.mv (.t 4)), B 16 (.call 244 [(.t 15)]), Bn (.store 32 (.t 2) (.t 16)), B 3 (.asg (.k (.c (.int .i64 0))))] [2, 3])
  .ret))))
def r253 : List ARes := [.cell 2 true 32, .tmp 3]
theorem k253 : bChk Tryz.prog 253 Tryz.f253 1 c253 r253 = true := by kernel_rfl
theorem p253 : Tryz.prog.funcs[253]? = some Tryz.f253 := by kernel_rfl

end Go.Proofs.YtdbaldohbjnlpaaGreat
