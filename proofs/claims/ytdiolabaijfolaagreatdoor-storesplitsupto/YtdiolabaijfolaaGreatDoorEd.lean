/-
  The law StoreSplits of almanaclaw20 answers true for every path and every list of users whose bulk is at most 1048576: the evaluator, its soundness, what each function answers, the row and its card. This part: S20I, EvW, EvW2, S20A, S20B, S20C.
-/
import Derived.Test.YtdiolabaijfolaaGreatDoorChecked
import Derived.KernelRfl
import Derived.Laws.RangeAny
import Derived.Test.YtdiolabaijfolaaGreatDoorEc
set_option linter.all false
/- The code of the functions that StoreSplits reaches, as lowered (printed by program). -/
namespace Go.Ev.S20
open Go Go.Ev Go.Proofs
noncomputable def EE : Env := { P := Tryz.prog, quiet := fun f => f == 4 || f == 5 || f == 6 || f == 7 || f == 8 || f == 9 || f == 16 || f == 17 || f == 18 || f == 19 || f == 31 || f == 61, globs := fun _ => none }
set_option maxRecDepth 10000
/-! almanac/almanaclaw20.StoreSplits -/
def q3_0 : List Ins := [⟨(some 4),.mov (.c (.bool false)),none⟩]
def q3_1 : List Ins := [⟨(some 14),.mov (.t 0),none⟩,
⟨(some 15),.call 4 [(.t 14)],none⟩,
⟨(some 13),.mov (.t 15),none⟩,
⟨(some 16),.ext (.t 13) 0,none⟩,
⟨(some 17),.ext (.t 13) 1,none⟩,
⟨(some 5),.alloc 24 [(.str []),(.str []),(.str [])],none⟩,
⟨none,.store 3 (.t 5) (.t 16),none⟩,
⟨(some 6),.mov (.t 17),none⟩]
def q3_2 : List Ins := [⟨(some 19),.mov (.t 0),none⟩,
⟨(some 20),.call 5 [(.t 19)],none⟩,
⟨(some 18),.mov (.t 20),none⟩,
⟨(some 21),.ext (.t 18) 0,none⟩,
⟨(some 22),.ext (.t 18) 1,none⟩,
⟨(some 7),.alloc 24 [(.str []),(.str []),(.str [])],none⟩,
⟨none,.store 3 (.t 7) (.t 21),none⟩,
⟨(some 8),.mov (.t 22),none⟩]
def q3_3 : List Ins := [⟨(some 24),.mov (.t 1),none⟩,
⟨(some 25),.call 6 [(.t 24)],none⟩,
⟨(some 23),.mov (.t 25),none⟩,
⟨(some 26),.ext (.t 23) 0,none⟩,
⟨(some 27),.ext (.t 23) 1,none⟩,
⟨(some 9),.alloc 33 [(.vec true none []),(.vec true none []),(.vec true none []),(.int .i64 0),(.int .i64 0)],none⟩,
⟨none,.store 5 (.t 9) (.t 26),none⟩,
⟨(some 10),.mov (.t 27),none⟩]
def q3_4 : List Ins := [⟨(some 29),.mov (.t 1),none⟩,
⟨(some 30),.call 7 [(.t 29)],none⟩,
⟨(some 28),.mov (.t 30),none⟩,
⟨(some 31),.ext (.t 28) 0,none⟩,
⟨(some 32),.ext (.t 28) 1,none⟩,
⟨(some 11),.alloc 33 [(.vec true none []),(.vec true none []),(.vec true none []),(.int .i64 0),(.int .i64 0)],none⟩,
⟨none,.store 5 (.t 11) (.t 31),none⟩,
⟨(some 12),.mov (.t 32),none⟩]
def q3_5 : List Ins := [⟨(some 33),.load (.many 3) (.t 5),none⟩,
⟨(some 34),.load (.many 3) (.t 7),none⟩,
⟨(some 35),.eqs [.s,.s,.s] false (.t 33) (.t 34),none⟩,
⟨(some 36),.mov (.t 35),none⟩,
⟨(some 37),.mov (.t 6),(some (36,true))⟩,
⟨(some 38),.mov (.t 8),(some (36,true))⟩,
⟨(some 39),.bin .eql (.t 37) (.t 38),(some (36,true))⟩,
⟨(some 40),.pick (.t 36) (.t 39) (.c (.bool false)),none⟩,
⟨(some 41),.mov (.t 40),none⟩,
⟨(some 42),.load (.many 5) (.t 9),(some (41,true))⟩,
⟨(some 43),.load (.many 5) (.t 11),(some (41,true))⟩,
⟨(some 44),.call 8 [(.t 42),(.t 43)],(some (41,true))⟩,
⟨(some 45),.pick (.t 41) (.t 44) (.c (.bool false)),none⟩,
⟨(some 46),.mov (.t 45),none⟩,
⟨(some 47),.mov (.t 10),(some (46,true))⟩,
⟨(some 48),.mov (.t 12),(some (46,true))⟩,
⟨(some 49),.bin .eql (.t 47) (.t 48),(some (46,true))⟩,
⟨(some 50),.pick (.t 46) (.t 49) (.c (.bool false)),none⟩,
⟨(some 51),.mov (.t 50),none⟩,
⟨(some 52),.call 9 [],(some (51,true))⟩,
⟨(some 53),.pick (.t 51) (.t 52) (.c (.bool false)),none⟩,
⟨(some 4),.mov (.t 53),none⟩]
def ir3 : IR := .seq (.reg q3_0) (.seq (.reg q3_1) (.seq (.reg q3_2) (.seq (.reg q3_3) (.seq (.reg q3_4) (.seq (.reg q3_5) (.ret))))))
theorem low3 : tabOf EE 3 = some (.code 54 [.tmp 4] false ir3) := by kernel_rfl
/-! almanac/store.Split -/
def q4_0 : List Ins := [⟨(some 2),.alloc 24 [(.str []),(.str []),(.str [])],none⟩,
⟨(some 3),.mov (.c (.int .i64 0)),none⟩]
def q4_1 : List Ins := [⟨(some 9),.mov (.t 0),none⟩,
⟨(some 10),.call 10 [(.t 9),(.c (.str [47]))],none⟩,
⟨(some 8),.mov (.t 10),none⟩,
⟨(some 11),.ext (.t 8) 0,none⟩,
⟨(some 12),.ext (.t 8) 1,none⟩,
⟨(some 4),.mov (.t 11),none⟩,
⟨(some 5),.mov (.t 12),none⟩]
def q4_2 : List Ins := [⟨(some 14),.mov (.t 5),none⟩,
⟨(some 15),.un .not (.t 14),none⟩,
⟨(some 13),.mov (.t 15),none⟩]
def q4_3 : List Ins := [⟨(some 16),.build [(.str []),(.str []),(.str [])] [],none⟩,
⟨none,.store 3 (.t 2) (.t 16),none⟩,
⟨(some 3),.mov (.c (.int .i64 23)),none⟩]
def c4_4 : IR := .seq (.reg q4_3) (.ret)
def q4_5 : List Ins := [⟨(some 18),.mov (.t 4),none⟩,
⟨(some 19),.bin .eql (.t 18) (.c (.str [])),none⟩,
⟨(some 17),.mov (.t 19),none⟩]
def q4_6 : List Ins := [⟨(some 20),.build [(.str []),(.str []),(.str [])] [],none⟩,
⟨none,.store 3 (.t 2) (.t 20),none⟩,
⟨(some 3),.mov (.c (.int .i64 0)),none⟩]
def c4_7 : IR := .seq (.reg q4_6) (.ret)
def c4_8 : IR := .seq (.reg q4_5) (.cond (.t 17) (c4_7) (.skip))
def q4_9 : List Ins := [⟨(some 21),.mov (.t 4),none⟩,
⟨(some 22),.call 11 [(.t 21),(.c (.str [47]))],none⟩,
⟨(some 6),.mov (.t 22),none⟩]
def q4_10 : List Ins := [⟨(some 23),.mov (.t 6),none⟩,
⟨(some 24),.len (.t 23),none⟩,
⟨(some 7),.mov (.t 24),none⟩]
def q4_11 : List Ins := [⟨(some 25),.mov (.t 6),none⟩,
⟨(some 26),.mov (.t 7),none⟩,
⟨(some 27),.bin .sub (.t 26) (.c (.int .i64 1)),none⟩,
⟨(some 28),.ixaddr (.sl 1) (.t 25) (.t 27),none⟩,
⟨(some 29),.load .one (.t 28),none⟩,
⟨(some 30),.bin .eql (.t 29) (.c (.str [])),none⟩,
⟨(some 31),.mov (.t 30),none⟩,
⟨(some 32),.mov (.t 7),(some (31,true))⟩,
⟨(some 33),.bin .eql (.t 32) (.c (.int .i64 2)),(some (31,true))⟩,
⟨(some 34),.mov (.t 33),(some (31,true))⟩,
⟨(some 35),.mov (.t 7),(some (34,false))⟩,
⟨(some 36),.bin .eql (.t 35) (.c (.int .i64 3)),(some (34,false))⟩,
⟨(some 37),.pick (.t 34) (.c (.bool true)) (.t 36),(some (31,true))⟩,
⟨(some 38),.pick (.t 31) (.t 37) (.c (.bool false)),none⟩]
def q4_12 : List Ins := [⟨(some 39),.mov (.t 6),none⟩,
⟨(some 40),.mov (.t 7),none⟩,
⟨(some 41),.bin .sub (.t 40) (.c (.int .i64 1)),none⟩,
⟨(some 42),.slice (.sl 1) (.t 39) none (some (.t 41)) none,none⟩,
⟨(some 6),.mov (.t 42),none⟩]
def c4_13 : IR := .reg q4_12
def q4_14 : List Ins := [⟨(some 43),.mov (.t 6),none⟩,
⟨(some 44),.len (.t 43),none⟩,
⟨(some 45),.bin .gtr (.t 44) (.c (.int .i64 3)),none⟩,
⟨(some 46),.mov (.t 45),none⟩,
⟨(some 47),.mov (.t 6),(some (46,false))⟩,
⟨(some 48),.call 12 [(.t 47),(.c (.fn (.func 13) [] []))],(some (46,false))⟩,
⟨(some 49),.pick (.t 46) (.c (.bool true)) (.t 48),none⟩]
def q4_15 : List Ins := [⟨(some 50),.build [(.str []),(.str []),(.str [])] [],none⟩,
⟨none,.store 3 (.t 2) (.t 50),none⟩,
⟨(some 3),.mov (.c (.int .i64 23)),none⟩]
def c4_16 : IR := .seq (.reg q4_15) (.ret)
def q4_17 : List Ins := [⟨(some 51),.mov (.t 6),none⟩,
⟨(some 52),.mkslice 9 1 2 [(.str [])] [(0,1,(.c (.str []))),(1,1,(.c (.str [])))],none⟩,
⟨(some 53),.append 9 1 16 (.t 51) (.t 52),none⟩,
⟨(some 6),.mov (.t 53),none⟩]
def d4_18 : List (Ins × Md) := [(⟨(some 54),.mov (.t 6),none⟩,.free),
(⟨(some 55),.ixaddr (.sl 1) (.t 54) (.c (.int .i64 0)),none⟩,.free),
(⟨(some 56),.load .one (.t 55),none⟩,.free),
(⟨(some 57),.mov (.t 6),none⟩,.free),
(⟨(some 58),.ixaddr (.sl 1) (.t 57) (.c (.int .i64 1)),none⟩,.free),
(⟨(some 59),.load .one (.t 58),none⟩,.free),
(⟨(some 60),.mov (.t 6),none⟩,.free),
(⟨(some 61),.ixaddr (.sl 1) (.t 60) (.c (.int .i64 2)),none⟩,.free),
(⟨(some 62),.load .one (.t 61),none⟩,.free),
(⟨(some 63),.build [(.str []),(.str []),(.str [])] [(0,1,(.t 56)),(1,1,(.t 59)),(2,1,(.t 62))],none⟩,.free),
(⟨none,.store 3 (.t 2) (.t 63),none⟩,.spine),
(⟨(some 3),.mov (.c (.int .i64 0)),none⟩,.free)]
def ir4 : IR := .seq (.reg q4_0) (.seq (.reg q4_1) (.seq (.block 0 (.seq (.reg q4_2) (.cond (.t 13) (c4_4) (c4_8)))) (.seq (.reg q4_9) (.seq (.seq (.reg q4_10) (.seq (.reg q4_11) (.cond (.t 38) (c4_13) (.skip)))) (.seq (.seq (.reg q4_14) (.cond (.t 49) (c4_16) (.skip))) (.seq (.reg q4_17) (.seq (.regd d4_18 []) (.ret))))))))
theorem low4 : tabOf EE 4 = some (.code 64 [.cell 2 (.many 3),.tmp 3] true ir4) := by kernel_rfl
/-! almanac/almanacref20.Split -/
def q5_0 : List Ins := [⟨(some 2),.alloc 24 [(.str []),(.str []),(.str [])],none⟩,
⟨(some 3),.mov (.c (.int .i64 0)),none⟩]
def q5_1 : List Ins := [⟨(some 10),.mov (.t 0),none⟩,
⟨(some 11),.bin .eql (.t 10) (.c (.str [47])),none⟩]
def q5_2 : List Ins := [⟨(some 12),.build [(.str []),(.str []),(.str [])] [],none⟩,
⟨none,.store 3 (.t 2) (.t 12),none⟩,
⟨(some 3),.mov (.c (.int .i64 0)),none⟩]
def c5_3 : IR := .seq (.reg q5_2) (.ret)
def q5_4 : List Ins := [⟨(some 13),.mov (.t 0),none⟩,
⟨(some 14),.bin .eql (.t 13) (.c (.str [])),none⟩,
⟨(some 15),.mov (.t 14),none⟩,
⟨(some 16),.mov (.t 0),(some (15,false))⟩,
⟨(some 17),.idx .str .one (.t 16) (.c (.int .i64 0)),(some (15,false))⟩,
⟨(some 18),.bin .neq (.t 17) (.c (.int .u8 47)),(some (15,false))⟩,
⟨(some 19),.pick (.t 15) (.c (.bool true)) (.t 18),none⟩]
def q5_5 : List Ins := [⟨(some 20),.build [(.str []),(.str []),(.str [])] [],none⟩,
⟨none,.store 3 (.t 2) (.t 20),none⟩,
⟨(some 3),.mov (.c (.int .i64 23)),none⟩]
def c5_6 : IR := .seq (.reg q5_5) (.ret)
def q5_7 : List Ins := [⟨(some 4),.mov (.c (.vec true none [])),none⟩]
def q5_8 : List Ins := [⟨(some 5),.mov (.c (.int .i64 1)),none⟩]
def q5_9 : List Ins := [⟨(some 6),.mov (.c (.int .i64 1)),none⟩]
def q5_10 : List Ins := [⟨(some 21),.mov (.t 6),none⟩,
⟨(some 22),.mov (.t 0),none⟩,
⟨(some 23),.slen (.t 22),none⟩,
⟨(some 24),.bin .leq (.t 21) (.t 23),none⟩]
def q5_11 : List Ins := [⟨(some 27),.mov (.t 6),none⟩,
⟨(some 28),.mov (.t 0),none⟩,
⟨(some 29),.slen (.t 28),none⟩,
⟨(some 30),.bin .eql (.t 27) (.t 29),none⟩,
⟨(some 31),.mov (.t 30),none⟩,
⟨(some 32),.mov (.t 0),(some (31,false))⟩,
⟨(some 33),.mov (.t 6),(some (31,false))⟩,
⟨(some 34),.idx .str .one (.t 32) (.t 33),(some (31,false))⟩,
⟨(some 35),.bin .eql (.t 34) (.c (.int .u8 47)),(some (31,false))⟩,
⟨(some 36),.pick (.t 31) (.c (.bool true)) (.t 35),none⟩]
def q5_12 : List Ins := [⟨(some 37),.mov (.t 4),none⟩,
⟨(some 38),.mov (.t 0),none⟩,
⟨(some 39),.mov (.t 5),none⟩,
⟨(some 40),.mov (.t 6),none⟩,
⟨(some 41),.slice .str (.t 38) (some (.t 39)) (some (.t 40)) none,none⟩,
⟨(some 42),.mkslice 9 1 1 [(.str [])] [(0,1,(.t 41))],none⟩,
⟨(some 43),.append 9 1 16 (.t 37) (.t 42),none⟩,
⟨(some 4),.mov (.t 43),none⟩]
def q5_13 : List Ins := [⟨(some 44),.mov (.t 6),none⟩,
⟨(some 45),.bin .add (.t 44) (.c (.int .i64 1)),none⟩,
⟨(some 5),.mov (.t 45),none⟩]
def c5_14 : IR := .seq (.reg q5_12) (.reg q5_13)
def q5_15 : List Ins := [⟨(some 25),.mov (.t 6),none⟩,
⟨(some 26),.bin .add (.t 25) (.c (.int .i64 1)),none⟩,
⟨(some 6),.mov (.t 26),none⟩]
def c5_16 : IR := .seq (.seq (.reg q5_10) (.cond (.t 24) (.skip) (.exit 0))) (.seq (.block 1 (.seq (.reg q5_11) (.cond (.t 36) (c5_14) (.skip)))) (.reg q5_15))
def q5_17 : List Ins := [⟨(some 46),.mov (.t 4),none⟩,
⟨(some 47),.len (.t 46),none⟩,
⟨(some 7),.mov (.t 47),none⟩]
def q5_18 : List Ins := [⟨(some 48),.mov (.t 4),none⟩,
⟨(some 49),.mov (.t 7),none⟩,
⟨(some 50),.bin .sub (.t 49) (.c (.int .i64 1)),none⟩,
⟨(some 51),.ixaddr (.sl 1) (.t 48) (.t 50),none⟩,
⟨(some 52),.load .one (.t 51),none⟩,
⟨(some 53),.bin .eql (.t 52) (.c (.str [])),none⟩,
⟨(some 54),.mov (.t 53),none⟩,
⟨(some 55),.mov (.t 7),(some (54,true))⟩,
⟨(some 56),.bin .gtr (.t 55) (.c (.int .i64 1)),(some (54,true))⟩,
⟨(some 57),.pick (.t 54) (.t 56) (.c (.bool false)),none⟩,
⟨(some 58),.mov (.t 57),none⟩,
⟨(some 59),.mov (.t 7),(some (58,true))⟩,
⟨(some 60),.bin .lss (.t 59) (.c (.int .i64 4)),(some (58,true))⟩,
⟨(some 61),.pick (.t 58) (.t 60) (.c (.bool false)),none⟩]
def q5_19 : List Ins := [⟨(some 62),.mov (.t 4),none⟩,
⟨(some 63),.mov (.t 7),none⟩,
⟨(some 64),.bin .sub (.t 63) (.c (.int .i64 1)),none⟩,
⟨(some 65),.slice (.sl 1) (.t 62) none (some (.t 64)) none,none⟩,
⟨(some 4),.mov (.t 65),none⟩]
def c5_20 : IR := .reg q5_19
def q5_21 : List Ins := [⟨(some 66),.mov (.t 4),none⟩,
⟨(some 67),.len (.t 66),none⟩,
⟨(some 68),.bin .gtr (.t 67) (.c (.int .i64 3)),none⟩]
def q5_22 : List Ins := [⟨(some 69),.build [(.str []),(.str []),(.str [])] [],none⟩,
⟨none,.store 3 (.t 2) (.t 69),none⟩,
⟨(some 3),.mov (.c (.int .i64 23)),none⟩]
def c5_23 : IR := .seq (.reg q5_22) (.ret)
def q5_24 : List Ins := [⟨(some 8),.mov (.c (.int .i64 0)),none⟩]
def q5_25 : List Ins := [⟨(some 70),.mov (.t 8),none⟩,
⟨(some 71),.mov (.t 4),none⟩,
⟨(some 72),.len (.t 71),none⟩,
⟨(some 73),.bin .lss (.t 70) (.t 72),none⟩]
def q5_26 : List Ins := [⟨(some 76),.mov (.t 4),none⟩,
⟨(some 77),.mov (.t 8),none⟩,
⟨(some 78),.ixaddr (.sl 1) (.t 76) (.t 77),none⟩,
⟨(some 79),.load .one (.t 78),none⟩,
⟨(some 80),.call 15 [(.t 79)],none⟩,
⟨(some 81),.un .not (.t 80),none⟩]
def q5_27 : List Ins := [⟨(some 82),.build [(.str []),(.str []),(.str [])] [],none⟩,
⟨none,.store 3 (.t 2) (.t 82),none⟩,
⟨(some 3),.mov (.c (.int .i64 23)),none⟩]
def c5_28 : IR := .seq (.reg q5_27) (.ret)
def q5_29 : List Ins := [⟨(some 74),.mov (.t 8),none⟩,
⟨(some 75),.bin .add (.t 74) (.c (.int .i64 1)),none⟩,
⟨(some 8),.mov (.t 75),none⟩]
def c5_30 : IR := .seq (.seq (.reg q5_25) (.cond (.t 73) (.skip) (.exit 2))) (.seq (.block 3 (.seq (.reg q5_26) (.cond (.t 81) (c5_28) (.skip)))) (.reg q5_29))
def q5_31 : List Ins := [⟨(some 83),.mov (.t 4),none⟩,
⟨(some 84),.ixaddr (.sl 1) (.t 83) (.c (.int .i64 0)),none⟩,
⟨(some 85),.load .one (.t 84),none⟩,
⟨(some 86),.build [(.str []),(.str []),(.str [])] [(0,1,(.t 85))],none⟩,
⟨(some 9),.alloc 24 [(.str []),(.str []),(.str [])],none⟩,
⟨none,.store 3 (.t 9) (.t 86),none⟩]
def q5_32 : List Ins := [⟨(some 87),.mov (.t 4),none⟩,
⟨(some 88),.len (.t 87),none⟩,
⟨(some 89),.bin .gtr (.t 88) (.c (.int .i64 1)),none⟩]
def q5_33 : List Ins := [⟨(some 90),.mov (.t 4),none⟩,
⟨(some 91),.ixaddr (.sl 1) (.t 90) (.c (.int .i64 1)),none⟩,
⟨(some 92),.load .one (.t 91),none⟩,
⟨(some 93),.off 1 (.t 9),none⟩,
⟨none,.store 1 (.t 93) (.t 92),none⟩]
def c5_34 : IR := .reg q5_33
def q5_35 : List Ins := [⟨(some 94),.mov (.t 4),none⟩,
⟨(some 95),.len (.t 94),none⟩,
⟨(some 96),.bin .gtr (.t 95) (.c (.int .i64 2)),none⟩]
def q5_36 : List Ins := [⟨(some 97),.mov (.t 4),none⟩,
⟨(some 98),.ixaddr (.sl 1) (.t 97) (.c (.int .i64 2)),none⟩,
⟨(some 99),.load .one (.t 98),none⟩,
⟨(some 100),.off 2 (.t 9),none⟩,
⟨none,.store 1 (.t 100) (.t 99),none⟩]
def c5_37 : IR := .reg q5_36
def q5_38 : List Ins := [⟨(some 101),.load (.many 3) (.t 9),none⟩,
⟨none,.store 3 (.t 2) (.t 101),none⟩,
⟨(some 3),.mov (.c (.int .i64 0)),none⟩]
def ir5 : IR := .seq (.reg q5_0) (.seq (.seq (.reg q5_1) (.cond (.t 11) (c5_3) (.skip))) (.seq (.seq (.reg q5_4) (.cond (.t 19) (c5_6) (.skip))) (.seq (.reg q5_7) (.seq (.reg q5_8) (.seq (.seq (.reg q5_9) (.block 0 (.loop (c5_16)))) (.seq (.seq (.reg q5_17) (.seq (.reg q5_18) (.cond (.t 61) (c5_20) (.skip)))) (.seq (.seq (.reg q5_21) (.cond (.t 68) (c5_23) (.skip))) (.seq (.seq (.reg q5_24) (.block 2 (.loop (c5_30)))) (.seq (.reg q5_31) (.seq (.seq (.reg q5_32) (.cond (.t 89) (c5_34) (.skip))) (.seq (.seq (.reg q5_35) (.cond (.t 96) (c5_37) (.skip))) (.seq (.reg q5_38) (.ret)))))))))))))
theorem low5 : tabOf EE 5 = some (.code 102 [.cell 2 (.many 3),.tmp 3] true ir5) := by kernel_rfl
/-! almanac/store.New -/
def q6_0 : List Ins := [⟨(some 2),.alloc 33 [(.vec true none []),(.vec true none []),(.vec true none []),(.int .i64 0),(.int .i64 0)],none⟩,
⟨(some 3),.mov (.c (.int .i64 0)),none⟩]
def q6_1 : List Ins := [⟨(some 7),.mov (.t 0),none⟩,
⟨(some 8),.call 16 [(.t 7)],none⟩,
⟨(some 9),.un .not (.t 8),none⟩]
def q6_2 : List Ins := [⟨(some 10),.build [(.vec true none []),(.vec true none []),(.vec true none []),(.int .i64 0),(.int .i64 0)] [],none⟩,
⟨none,.store 5 (.t 2) (.t 10),none⟩,
⟨(some 3),.mov (.c (.int .i64 14)),none⟩]
def c6_3 : IR := .seq (.reg q6_2) (.ret)
def q6_4 : List Ins := [⟨(some 11),.mov (.t 0),none⟩,
⟨(some 12),.call 17 [(.t 11)],none⟩,
⟨(some 13),.build [(.vec true none []),(.vec true none []),(.vec true none []),(.int .i64 0),(.int .i64 0)] [(0,1,(.t 12))],none⟩,
⟨(some 4),.alloc 33 [(.vec true none []),(.vec true none []),(.vec true none []),(.int .i64 0),(.int .i64 0)],none⟩,
⟨none,.store 5 (.t 4) (.t 13),none⟩]
def q6_5 : List Ins := [⟨(some 14),.mov (.t 0),none⟩,
⟨(some 15),.len (.t 14),none⟩,
⟨(some 16),.mov (.c (.int .i64 0)),none⟩]
def q6_6 : List Ins := [⟨(some 17),.bin .lss (.t 16) (.t 15),none⟩]
def q6_7 : List Ins := [⟨(some 18),.ixaddr (.sl 2) (.t 14) (.t 16),none⟩,
⟨(some 19),.load (.many 2) (.t 18),none⟩,
⟨(some 6),.alloc 50 [(.str []),(.str [])],none⟩,
⟨none,.store 2 (.t 6) (.t 19),none⟩]
def q6_8 : List Ins := [⟨(some 20),.off 1 (.t 4),none⟩,
⟨(some 21),.load .one (.t 20),none⟩,
⟨(some 22),.off 0 (.t 6),none⟩,
⟨(some 23),.load .one (.t 22),none⟩,
⟨(some 24),.build [(.str []),(.str []),(.int .i64 0),(.vec true none []),(.vec true none []),(.vec true none []),(.vec true none []),(.vec true none []),(.int .i64 0),(.int .i64 0)] [(0,1,(.t 23)),(1,1,(.c (.str [104,111,109,101]))),(2,1,(.c (.int .i64 1)))],none⟩,
⟨(some 25),.off 0 (.t 6),none⟩,
⟨(some 26),.load .one (.t 25),none⟩,
⟨(some 27),.build [(.str []),(.str []),(.int .i64 0),(.vec true none []),(.vec true none []),(.vec true none []),(.vec true none []),(.vec true none []),(.int .i64 0),(.int .i64 0)] [(0,1,(.t 26)),(1,1,(.c (.str [105,110,98,111,120]))),(2,1,(.c (.int .i64 2)))],none⟩,
⟨(some 28),.mkslice 57 10 2 [(.str []),(.str []),(.int .i64 0),(.vec true none []),(.vec true none []),(.vec true none []),(.vec true none []),(.vec true none []),(.int .i64 0),(.int .i64 0)] [(0,10,(.t 24)),(10,10,(.t 27))],none⟩,
⟨(some 29),.append 57 10 176 (.t 21) (.t 28),none⟩,
⟨(some 30),.off 1 (.t 4),none⟩,
⟨none,.store 1 (.t 30) (.t 29),none⟩]
def q6_9 : List Ins := [⟨(some 31),.bin .add (.t 16) (.c (.int .i64 1)),none⟩,
⟨(some 16),.mov (.t 31),none⟩]
def c6_10 : IR := .seq (.reg q6_6) (.seq (.cond (.t 17) (.skip) (.exit 0)) (.seq (.block 1 (.seq (.reg q6_7) (.reg q6_8))) (.reg q6_9)))
def q6_11 : List Ins := [⟨(some 32),.load (.many 5) (.t 4),none⟩,
⟨none,.store 5 (.t 2) (.t 32),none⟩,
⟨(some 3),.mov (.c (.int .i64 0)),none⟩]
def ir6 : IR := .seq (.reg q6_0) (.seq (.seq (.reg q6_1) (.cond (.t 9) (c6_3) (.skip))) (.seq (.reg q6_4) (.seq (.seq (.reg q6_5) (.block 0 (.loop (c6_10)))) (.seq (.reg q6_11) (.ret)))))
theorem low6 : tabOf EE 6 = some (.code 33 [.cell 2 (.many 5),.tmp 3] true ir6) := by kernel_rfl
/-! almanac/almanacref20.New -/
def q7_0 : List Ins := [⟨(some 2),.alloc 33 [(.vec true none []),(.vec true none []),(.vec true none []),(.int .i64 0),(.int .i64 0)],none⟩,
⟨(some 3),.mov (.c (.int .i64 0)),none⟩]
def q7_1 : List Ins := [⟨(some 6),.mov (.t 0),none⟩,
⟨(some 7),.call 18 [(.t 6)],none⟩,
⟨(some 8),.un .not (.t 7),none⟩]
def q7_2 : List Ins := [⟨(some 9),.build [(.vec true none []),(.vec true none []),(.vec true none []),(.int .i64 0),(.int .i64 0)] [],none⟩,
⟨none,.store 5 (.t 2) (.t 9),none⟩,
⟨(some 3),.mov (.c (.int .i64 14)),none⟩]
def c7_3 : IR := .seq (.reg q7_2) (.ret)
def q7_4 : List Ins := [⟨(some 10),.build [(.vec true none []),(.vec true none []),(.vec true none []),(.int .i64 0),(.int .i64 0)] [],none⟩,
⟨(some 4),.alloc 33 [(.vec true none []),(.vec true none []),(.vec true none []),(.int .i64 0),(.int .i64 0)],none⟩,
⟨none,.store 5 (.t 4) (.t 10),none⟩]
def q7_5 : List Ins := [⟨(some 5),.mov (.c (.int .i64 0)),none⟩]
def q7_6 : List Ins := [⟨(some 11),.mov (.t 5),none⟩,
⟨(some 12),.mov (.t 0),none⟩,
⟨(some 13),.len (.t 12),none⟩,
⟨(some 14),.bin .lss (.t 11) (.t 13),none⟩]
def d7_7 : List (Ins × Md) := [(⟨(some 17),.off 0 (.t 4),none⟩,.free),
(⟨(some 18),.load .one (.t 17),none⟩,.free),
(⟨(some 19),.mov (.t 0),none⟩,.free),
(⟨(some 20),.mov (.t 5),none⟩,.free),
(⟨(some 21),.ixaddr (.sl 2) (.t 19) (.t 20),none⟩,.free),
(⟨(some 22),.load (.many 2) (.t 21),none⟩,.free),
(⟨(some 23),.mkslice 50 2 1 [(.str []),(.str [])] [(0,2,(.t 22))],none⟩,.spine),
(⟨(some 24),.append 50 2 32 (.t 18) (.t 23),none⟩,.spine),
(⟨(some 25),.off 0 (.t 4),none⟩,.free),
(⟨none,.store 1 (.t 25) (.t 24),none⟩,.spine)]
def d7_8 : List (Ins × Md) := [(⟨(some 26),.off 1 (.t 4),none⟩,.free),
(⟨(some 27),.load .one (.t 26),none⟩,.free),
(⟨(some 28),.mov (.t 0),none⟩,.free),
(⟨(some 29),.mov (.t 5),none⟩,.free),
(⟨(some 30),.ixaddr (.sl 2) (.t 28) (.t 29),none⟩,.free),
(⟨(some 31),.off 0 (.t 30),none⟩,.free),
(⟨(some 32),.load .one (.t 31),none⟩,.free),
(⟨(some 33),.build [(.str []),(.str []),(.int .i64 0),(.vec true none []),(.vec true none []),(.vec true none []),(.vec true none []),(.vec true none []),(.int .i64 0),(.int .i64 0)] [(0,1,(.t 32)),(1,1,(.c (.str [104,111,109,101]))),(2,1,(.c (.int .i64 1)))],none⟩,.free),
(⟨(some 34),.mov (.t 0),none⟩,.free),
(⟨(some 35),.mov (.t 5),none⟩,.free),
(⟨(some 36),.ixaddr (.sl 2) (.t 34) (.t 35),none⟩,.free),
(⟨(some 37),.off 0 (.t 36),none⟩,.free),
(⟨(some 38),.load .one (.t 37),none⟩,.free),
(⟨(some 39),.build [(.str []),(.str []),(.int .i64 0),(.vec true none []),(.vec true none []),(.vec true none []),(.vec true none []),(.vec true none []),(.int .i64 0),(.int .i64 0)] [(0,1,(.t 38)),(1,1,(.c (.str [105,110,98,111,120]))),(2,1,(.c (.int .i64 2)))],none⟩,.free),
(⟨(some 40),.mkslice 57 10 2 [(.str []),(.str []),(.int .i64 0),(.vec true none []),(.vec true none []),(.vec true none []),(.vec true none []),(.vec true none []),(.int .i64 0),(.int .i64 0)] [(0,10,(.t 33)),(10,10,(.t 39))],none⟩,.spine),
(⟨(some 41),.append 57 10 176 (.t 27) (.t 40),none⟩,.spine),
(⟨(some 42),.off 1 (.t 4),none⟩,.free),
(⟨none,.store 1 (.t 42) (.t 41),none⟩,.spine)]
def q7_9 : List Ins := [⟨(some 15),.mov (.t 5),none⟩,
⟨(some 16),.bin .add (.t 15) (.c (.int .i64 1)),none⟩,
⟨(some 5),.mov (.t 16),none⟩]
def c7_10 : IR := .seq (.seq (.reg q7_6) (.cond (.t 14) (.skip) (.exit 0))) (.seq (.block 1 (.seq (.regd d7_7 [⟨18,none,.load .one (.t 17),0,1⟩]) (.regd d7_8 [⟨27,none,.load .one (.t 26),0,1⟩]))) (.reg q7_9))
def q7_11 : List Ins := [⟨(some 43),.load (.many 5) (.t 4),none⟩,
⟨none,.store 5 (.t 2) (.t 43),none⟩,
⟨(some 3),.mov (.c (.int .i64 0)),none⟩]
def ir7 : IR := .seq (.reg q7_0) (.seq (.seq (.reg q7_1) (.cond (.t 8) (c7_3) (.skip))) (.seq (.reg q7_4) (.seq (.seq (.reg q7_5) (.block 0 (.loop (c7_10)))) (.seq (.reg q7_11) (.ret)))))
theorem low7 : tabOf EE 7 = some (.code 44 [.cell 2 (.many 5),.tmp 3] true ir7) := by kernel_rfl
/-! almanac/almanacref20.Same -/
def q8_0 : List Ins := [⟨(some 2),.box 33 (.t 0),none⟩,
⟨(some 3),.box 33 (.t 1),none⟩,
⟨(some 4),.mov (.c (.bool false)),none⟩]
def q8_1 : List Ins := [⟨(some 8),.off 3 (.t 2),none⟩,
⟨(some 9),.load .one (.t 8),none⟩,
⟨(some 10),.off 3 (.t 3),none⟩,
⟨(some 11),.load .one (.t 10),none⟩,
⟨(some 12),.bin .neq (.t 9) (.t 11),none⟩,
⟨(some 13),.mov (.t 12),none⟩,
⟨(some 14),.off 4 (.t 2),(some (13,false))⟩,
⟨(some 15),.load .one (.t 14),(some (13,false))⟩,
⟨(some 16),.off 4 (.t 3),(some (13,false))⟩,
⟨(some 17),.load .one (.t 16),(some (13,false))⟩,
⟨(some 18),.bin .neq (.t 15) (.t 17),(some (13,false))⟩,
⟨(some 19),.pick (.t 13) (.c (.bool true)) (.t 18),none⟩,
⟨(some 20),.mov (.t 19),none⟩,
⟨(some 21),.off 0 (.t 2),(some (20,false))⟩,
⟨(some 22),.load .one (.t 21),(some (20,false))⟩,
⟨(some 23),.len (.t 22),(some (20,false))⟩,
⟨(some 24),.off 0 (.t 3),(some (20,false))⟩,
⟨(some 25),.load .one (.t 24),(some (20,false))⟩,
⟨(some 26),.len (.t 25),(some (20,false))⟩,
⟨(some 27),.bin .neq (.t 23) (.t 26),(some (20,false))⟩,
⟨(some 28),.pick (.t 20) (.c (.bool true)) (.t 27),none⟩,
⟨(some 29),.mov (.t 28),none⟩,
⟨(some 30),.off 1 (.t 2),(some (29,false))⟩,
⟨(some 31),.load .one (.t 30),(some (29,false))⟩,
⟨(some 32),.len (.t 31),(some (29,false))⟩,
⟨(some 33),.off 1 (.t 3),(some (29,false))⟩,
⟨(some 34),.load .one (.t 33),(some (29,false))⟩,
⟨(some 35),.len (.t 34),(some (29,false))⟩,
⟨(some 36),.bin .neq (.t 32) (.t 35),(some (29,false))⟩,
⟨(some 37),.pick (.t 29) (.c (.bool true)) (.t 36),none⟩,
⟨(some 38),.mov (.t 37),none⟩,
⟨(some 39),.off 2 (.t 2),(some (38,false))⟩,
⟨(some 40),.load .one (.t 39),(some (38,false))⟩,
⟨(some 41),.len (.t 40),(some (38,false))⟩,
⟨(some 42),.off 2 (.t 3),(some (38,false))⟩,
⟨(some 43),.load .one (.t 42),(some (38,false))⟩,
⟨(some 44),.len (.t 43),(some (38,false))⟩,
⟨(some 45),.bin .neq (.t 41) (.t 44),(some (38,false))⟩,
⟨(some 46),.pick (.t 38) (.c (.bool true)) (.t 45),none⟩]
def q8_2 : List Ins := [⟨(some 4),.mov (.c (.bool false)),none⟩]
def c8_3 : IR := .seq (.reg q8_2) (.ret)
def q8_4 : List Ins := [⟨(some 5),.mov (.c (.int .i64 0)),none⟩]
def q8_5 : List Ins := [⟨(some 47),.mov (.t 5),none⟩,
⟨(some 48),.off 0 (.t 2),none⟩,
⟨(some 49),.load .one (.t 48),none⟩,
⟨(some 50),.len (.t 49),none⟩,
⟨(some 51),.bin .lss (.t 47) (.t 50),none⟩]
def d8_6 : List (Ins × Md) := [(⟨(some 54),.off 0 (.t 2),none⟩,.free),
(⟨(some 55),.load .one (.t 54),none⟩,.free),
(⟨(some 56),.mov (.t 5),none⟩,.free),
(⟨(some 57),.ixaddr (.sl 2) (.t 55) (.t 56),none⟩,.free),
(⟨(some 58),.load (.many 2) (.t 57),none⟩,.free),
(⟨(some 59),.off 0 (.t 3),none⟩,.free),
(⟨(some 60),.load .one (.t 59),none⟩,.free),
(⟨(some 61),.mov (.t 5),none⟩,.free),
(⟨(some 62),.ixaddr (.sl 2) (.t 60) (.t 61),none⟩,.free),
(⟨(some 63),.load (.many 2) (.t 62),none⟩,.free),
(⟨(some 64),.eqs [.s,.s] true (.t 58) (.t 63),none⟩,.free)]
def q8_7 : List Ins := [⟨(some 4),.mov (.c (.bool false)),none⟩]
def c8_8 : IR := .seq (.reg q8_7) (.ret)
def q8_9 : List Ins := [⟨(some 52),.mov (.t 5),none⟩,
⟨(some 53),.bin .add (.t 52) (.c (.int .i64 1)),none⟩,
⟨(some 5),.mov (.t 53),none⟩]
def c8_10 : IR := .seq (.seq (.reg q8_5) (.cond (.t 51) (.skip) (.exit 0))) (.seq (.block 1 (.seq (.regd d8_6 []) (.cond (.t 64) (c8_8) (.skip)))) (.reg q8_9))
def q8_11 : List Ins := [⟨(some 6),.mov (.c (.int .i64 0)),none⟩]
def q8_12 : List Ins := [⟨(some 65),.mov (.t 6),none⟩,
⟨(some 66),.off 2 (.t 2),none⟩,
⟨(some 67),.load .one (.t 66),none⟩,
⟨(some 68),.len (.t 67),none⟩,
⟨(some 69),.bin .lss (.t 65) (.t 68),none⟩]
def d8_13 : List (Ins × Md) := [(⟨(some 72),.off 2 (.t 2),none⟩,.free),
(⟨(some 73),.load .one (.t 72),none⟩,.free),
(⟨(some 74),.mov (.t 6),none⟩,.free),
(⟨(some 75),.ixaddr (.sl 5) (.t 73) (.t 74),none⟩,.free),
(⟨(some 76),.load (.many 5) (.t 75),none⟩,.free),
(⟨(some 77),.off 2 (.t 3),none⟩,.free),
(⟨(some 78),.load .one (.t 77),none⟩,.free),
(⟨(some 79),.mov (.t 6),none⟩,.free),
(⟨(some 80),.ixaddr (.sl 5) (.t 78) (.t 79),none⟩,.free),
(⟨(some 81),.load (.many 5) (.t 80),none⟩,.free),
(⟨(some 82),.eqs [.s,.s,.s,.b,.i] true (.t 76) (.t 81),none⟩,.free)]
def q8_14 : List Ins := [⟨(some 4),.mov (.c (.bool false)),none⟩]
def c8_15 : IR := .seq (.reg q8_14) (.ret)
def q8_16 : List Ins := [⟨(some 70),.mov (.t 6),none⟩,
⟨(some 71),.bin .add (.t 70) (.c (.int .i64 1)),none⟩,
⟨(some 6),.mov (.t 71),none⟩]
def c8_17 : IR := .seq (.seq (.reg q8_12) (.cond (.t 69) (.skip) (.exit 2))) (.seq (.block 3 (.seq (.regd d8_13 []) (.cond (.t 82) (c8_15) (.skip)))) (.reg q8_16))
def q8_18 : List Ins := [⟨(some 7),.mov (.c (.int .i64 0)),none⟩]
def q8_19 : List Ins := [⟨(some 83),.mov (.t 7),none⟩,
⟨(some 84),.off 1 (.t 2),none⟩,
⟨(some 85),.load .one (.t 84),none⟩,
⟨(some 86),.len (.t 85),none⟩,
⟨(some 87),.bin .lss (.t 83) (.t 86),none⟩]
def d8_20 : List (Ins × Md) := [(⟨(some 90),.off 1 (.t 2),none⟩,.free),
(⟨(some 91),.load .one (.t 90),none⟩,.free),
(⟨(some 92),.mov (.t 7),none⟩,.free),
(⟨(some 93),.ixaddr (.sl 10) (.t 91) (.t 92),none⟩,.free),
(⟨(some 94),.load (.many 10) (.t 93),none⟩,.free),
(⟨(some 95),.off 1 (.t 3),none⟩,.free),
(⟨(some 96),.load .one (.t 95),none⟩,.free),
(⟨(some 97),.mov (.t 7),none⟩,.free),
(⟨(some 98),.ixaddr (.sl 10) (.t 96) (.t 97),none⟩,.free),
(⟨(some 99),.load (.many 10) (.t 98),none⟩,.free),
(⟨(some 100),.call 19 [(.t 94),(.t 99)],none⟩,.spine),
(⟨(some 101),.un .not (.t 100),none⟩,.free)]
def q8_21 : List Ins := [⟨(some 4),.mov (.c (.bool false)),none⟩]
def c8_22 : IR := .seq (.reg q8_21) (.ret)
def q8_23 : List Ins := [⟨(some 88),.mov (.t 7),none⟩,
⟨(some 89),.bin .add (.t 88) (.c (.int .i64 1)),none⟩,
⟨(some 7),.mov (.t 89),none⟩]
def c8_24 : IR := .seq (.seq (.reg q8_19) (.cond (.t 87) (.skip) (.exit 4))) (.seq (.block 5 (.seq (.regd d8_20 []) (.cond (.t 101) (c8_22) (.skip)))) (.reg q8_23))
def q8_25 : List Ins := [⟨(some 4),.mov (.c (.bool true)),none⟩]
def ir8 : IR := .seq (.reg q8_0) (.seq (.seq (.reg q8_1) (.cond (.t 46) (c8_3) (.skip))) (.seq (.seq (.reg q8_4) (.block 0 (.loop (c8_10)))) (.seq (.seq (.reg q8_11) (.block 2 (.loop (c8_17)))) (.seq (.seq (.reg q8_18) (.block 4 (.loop (c8_24)))) (.seq (.reg q8_25) (.ret))))))
theorem low8 : tabOf EE 8 = some (.code 102 [.tmp 4] true ir8) := by kernel_rfl
/-! strings.CutPrefix -/
def q10_0 : List Ins := [⟨(some 4),.mov (.c (.str [])),none⟩,
⟨(some 5),.mov (.c (.bool false)),none⟩]
def q10_1 : List Ins := [⟨(some 6),.mov (.t 0),none⟩,
⟨(some 7),.mov (.t 1),none⟩,
⟨(some 8),.call 24 [(.t 6),(.t 7)],none⟩,
⟨(some 9),.ext (.t 8) 0,none⟩,
⟨(some 10),.ext (.t 8) 1,none⟩,
⟨(some 4),.mov (.t 9),none⟩,
⟨(some 5),.mov (.t 10),none⟩]
def ir10 : IR := .seq (.reg q10_0) (.seq (.reg q10_1) (.ret))
theorem low10 : tabOf EE 10 = some (.code 11 [.tmp 4,.tmp 5] false ir10) := by kernel_rfl
/-! strings.Split -/
def q11_0 : List Ins := [⟨(some 4),.mov (.c (.vec true none [])),none⟩]
def q11_1 : List Ins := [⟨(some 5),.mov (.t 0),none⟩,
⟨(some 6),.mov (.t 1),none⟩,
⟨(some 7),.call 25 [(.t 5),(.t 6),(.c (.int .i64 0)),(.c (.int .i64 (-1)))],none⟩,
⟨(some 4),.mov (.t 7),none⟩]
def ir11 : IR := .seq (.reg q11_0) (.seq (.reg q11_1) (.ret))
theorem low11 : tabOf EE 11 = some (.code 8 [.tmp 4] false ir11) := by kernel_rfl
/-! slices.ContainsFunc[[]string,string] -/
def q12_0 : List Ins := [⟨(some 4),.mov (.c (.bool false)),none⟩]
def q12_1 : List Ins := [⟨(some 5),.mov (.t 0),none⟩,
⟨(some 6),.mov (.t 1),none⟩,
⟨(some 7),.call 26 [(.t 5),(.t 6)],none⟩,
⟨(some 8),.bin .geq (.t 7) (.c (.int .i64 0)),none⟩,
⟨(some 4),.mov (.t 8),none⟩]
def ir12 : IR := .seq (.reg q12_0) (.seq (.reg q12_1) (.ret))
theorem low12 : tabOf EE 12 = some (.code 9 [.tmp 4] false ir12) := by kernel_rfl
/-! almanac/store.Split$1 -/
def q13_0 : List Ins := [⟨(some 2),.mov (.c (.bool false)),none⟩]
def q13_1 : List Ins := [⟨(some 3),.mov (.t 0),none⟩,
⟨(some 4),.call 14 [(.t 3)],none⟩,
⟨(some 5),.un .not (.t 4),none⟩,
⟨(some 2),.mov (.t 5),none⟩]
def ir13 : IR := .seq (.reg q13_0) (.seq (.reg q13_1) (.ret))
theorem low13 : tabOf EE 13 = some (.code 6 [.tmp 2] false ir13) := by kernel_rfl
/-! almanac/dir.Name -/
def q14_0 : List Ins := [⟨(some 2),.mov (.c (.bool false)),none⟩]
def q14_1 : List Ins := [⟨(some 3),.mov (.c (.fn (.func 27) [] [])),none⟩]
def q14_2 : List Ins := [⟨(some 4),.mov (.t 0),none⟩,
⟨(some 5),.bin .neq (.t 4) (.c (.str [])),none⟩,
⟨(some 6),.mov (.t 5),none⟩,
⟨(some 7),.mov (.t 0),(some (6,true))⟩,
⟨(some 8),.slen (.t 7),(some (6,true))⟩,
⟨(some 9),.bin .leq (.t 8) (.c (.int .i64 24)),(some (6,true))⟩,
⟨(some 10),.pick (.t 6) (.t 9) (.c (.bool false)),none⟩,
⟨(some 11),.mov (.t 10),none⟩,
⟨(some 12),.mov (.t 0),(some (11,true))⟩,
⟨(some 13),.bin .neq (.t 12) (.c (.str [46])),(some (11,true))⟩,
⟨(some 14),.pick (.t 11) (.t 13) (.c (.bool false)),none⟩,
⟨(some 15),.mov (.t 14),none⟩,
⟨(some 16),.mov (.t 0),(some (15,true))⟩,
⟨(some 17),.bin .neq (.t 16) (.c (.str [46,46])),(some (15,true))⟩,
⟨(some 18),.pick (.t 15) (.t 17) (.c (.bool false)),none⟩,
⟨(some 19),.mov (.t 18),none⟩,
⟨(some 20),.mov (.t 0),(some (19,true))⟩,
⟨(some 21),.mov (.t 3),(some (19,true))⟩,
⟨(some 22),.call 28 [(.t 20),(.t 21)],(some (19,true))⟩,
⟨(some 23),.bin .lss (.t 22) (.c (.int .i64 0)),(some (19,true))⟩,
⟨(some 24),.pick (.t 19) (.t 23) (.c (.bool false)),none⟩,
⟨(some 2),.mov (.t 24),none⟩]
def ir14 : IR := .seq (.reg q14_0) (.seq (.reg q14_1) (.seq (.reg q14_2) (.ret)))
theorem low14 : tabOf EE 14 = some (.code 25 [.tmp 2] false ir14) := by kernel_rfl
/-! almanac/almanacref06.Name -/
def q15_0 : List Ins := [⟨(some 2),.mov (.c (.bool false)),none⟩]
def q15_1 : List Ins := [⟨(some 3),.mov (.c (.int .i64 0)),none⟩]
def q15_2 : List Ins := [⟨(some 4),.mov (.t 3),none⟩,
⟨(some 5),.mov (.t 0),none⟩,
⟨(some 6),.slen (.t 5),none⟩,
⟨(some 7),.bin .lss (.t 4) (.t 6),none⟩]
def q15_3 : List Ins := [⟨(some 10),.mov (.t 0),none⟩,
⟨(some 11),.mov (.t 3),none⟩,
⟨(some 12),.idx .str .one (.t 10) (.t 11),none⟩,
⟨(some 13),.bin .lss (.t 12) (.c (.int .u8 33)),none⟩,
⟨(some 14),.mov (.t 13),none⟩,
⟨(some 15),.mov (.t 0),(some (14,false))⟩,
⟨(some 16),.mov (.t 3),(some (14,false))⟩,
⟨(some 17),.idx .str .one (.t 15) (.t 16),(some (14,false))⟩,
⟨(some 18),.bin .gtr (.t 17) (.c (.int .u8 126)),(some (14,false))⟩,
⟨(some 19),.pick (.t 14) (.c (.bool true)) (.t 18),none⟩,
⟨(some 20),.mov (.t 19),none⟩,
⟨(some 21),.mov (.t 0),(some (20,false))⟩,
⟨(some 22),.mov (.t 3),(some (20,false))⟩,
⟨(some 23),.idx .str .one (.t 21) (.t 22),(some (20,false))⟩,
⟨(some 24),.bin .eql (.t 23) (.c (.int .u8 47)),(some (20,false))⟩,
⟨(some 25),.pick (.t 20) (.c (.bool true)) (.t 24),none⟩]
def q15_4 : List Ins := [⟨(some 2),.mov (.c (.bool false)),none⟩]
def c15_5 : IR := .seq (.reg q15_4) (.ret)
def q15_6 : List Ins := [⟨(some 8),.mov (.t 3),none⟩,
⟨(some 9),.bin .add (.t 8) (.c (.int .i64 1)),none⟩,
⟨(some 3),.mov (.t 9),none⟩]
def c15_7 : IR := .seq (.seq (.reg q15_2) (.cond (.t 7) (.skip) (.exit 0))) (.seq (.block 1 (.seq (.reg q15_3) (.cond (.t 25) (c15_5) (.skip)))) (.reg q15_6))
def q15_8 : List Ins := [⟨(some 26),.mov (.t 0),none⟩,
⟨(some 27),.bin .neq (.t 26) (.c (.str [])),none⟩,
⟨(some 28),.mov (.t 27),none⟩,
⟨(some 29),.mov (.t 0),(some (28,true))⟩,
⟨(some 30),.slen (.t 29),(some (28,true))⟩,
⟨(some 31),.bin .leq (.t 30) (.c (.int .i64 24)),(some (28,true))⟩,
⟨(some 32),.pick (.t 28) (.t 31) (.c (.bool false)),none⟩,
⟨(some 33),.mov (.t 32),none⟩,
⟨(some 34),.mov (.t 0),(some (33,true))⟩,
⟨(some 35),.bin .neq (.t 34) (.c (.str [46])),(some (33,true))⟩,
⟨(some 36),.pick (.t 33) (.t 35) (.c (.bool false)),none⟩,
⟨(some 37),.mov (.t 36),none⟩,
⟨(some 38),.mov (.t 0),(some (37,true))⟩,
⟨(some 39),.bin .neq (.t 38) (.c (.str [46,46])),(some (37,true))⟩,
⟨(some 40),.pick (.t 37) (.t 39) (.c (.bool false)),none⟩,
⟨(some 2),.mov (.t 40),none⟩]
def ir15 : IR := .seq (.reg q15_0) (.seq (.seq (.reg q15_1) (.block 0 (.loop (c15_7)))) (.seq (.reg q15_8) (.ret)))
theorem low15 : tabOf EE 15 = some (.code 41 [.tmp 2] false ir15) := by kernel_rfl
/-! almanac/store.users -/
def q16_0 : List Ins := [⟨(some 2),.mov (.c (.bool false)),none⟩]
def q16_1 : List Ins := [⟨(some 5),.mov (.t 0),none⟩,
⟨(some 6),.len (.t 5),none⟩,
⟨(some 7),.mov (.c (.int .i64 0)),none⟩]
def q16_2 : List Ins := [⟨(some 8),.bin .lss (.t 7) (.t 6),none⟩]
def q16_3 : List Ins := [⟨(some 9),.mov (.t 7),none⟩,
⟨(some 10),.ixaddr (.sl 2) (.t 5) (.t 7),none⟩,
⟨(some 11),.load (.many 2) (.t 10),none⟩,
⟨(some 4),.alloc 50 [(.str []),(.str [])],none⟩,
⟨(some 3),.mov (.t 9),none⟩,
⟨none,.store 2 (.t 4) (.t 11),none⟩]
def d16_4 : List (Ins × Md) := [(⟨(some 12),.off 0 (.t 4),none⟩,.free),
(⟨(some 13),.load .one (.t 12),none⟩,.free),
(⟨(some 14),.call 14 [(.t 13)],none⟩,.spine),
(⟨(some 15),.un .not (.t 14),none⟩,.free),
(⟨(some 16),.mov (.t 15),none⟩,.free),
(⟨(some 17),.off 1 (.t 4),(some (16,false))⟩,.free),
(⟨(some 18),.load .one (.t 17),(some (16,false))⟩,.free),
(⟨(some 19),.call 29 [(.t 18)],(some (16,false))⟩,.spine),
(⟨(some 20),.un .not (.t 19),(some (16,false))⟩,.free),
(⟨(some 21),.pick (.t 16) (.c (.bool true)) (.t 20),none⟩,.free),
(⟨(some 22),.mov (.t 21),none⟩,.free),
(⟨(some 23),.mov (.t 3),(some (22,false))⟩,.free),
(⟨(some 24),.bin .gtr (.t 23) (.c (.int .i64 0)),(some (22,false))⟩,.free),
(⟨(some 25),.mov (.t 24),(some (22,false))⟩,.free),
(⟨(some 26),.mov (.t 0),(some (25,true))⟩,.free),
(⟨(some 27),.mov (.t 3),(some (25,true))⟩,.free),
(⟨(some 28),.bin .sub (.t 27) (.c (.int .i64 1)),(some (25,true))⟩,.free),
(⟨(some 29),.ixaddr (.sl 2) (.t 26) (.t 28),(some (25,true))⟩,.free),
(⟨(some 30),.off 0 (.t 29),(some (25,true))⟩,.free),
(⟨(some 31),.load .one (.t 30),(some (25,true))⟩,.free),
(⟨(some 32),.off 0 (.t 4),(some (25,true))⟩,.free),
(⟨(some 33),.load .one (.t 32),(some (25,true))⟩,.free),
(⟨(some 34),.bin .geq (.t 31) (.t 33),(some (25,true))⟩,.free),
(⟨(some 35),.pick (.t 25) (.t 34) (.c (.bool false)),(some (22,false))⟩,.free),
(⟨(some 36),.pick (.t 22) (.c (.bool true)) (.t 35),none⟩,.free)]
def q16_5 : List Ins := [⟨(some 2),.mov (.c (.bool false)),none⟩]
def c16_6 : IR := .seq (.reg q16_5) (.ret)
def q16_7 : List Ins := [⟨(some 37),.bin .add (.t 7) (.c (.int .i64 1)),none⟩,
⟨(some 7),.mov (.t 37),none⟩]
def c16_8 : IR := .seq (.reg q16_2) (.seq (.cond (.t 8) (.skip) (.exit 0)) (.seq (.block 1 (.seq (.reg q16_3) (.seq (.regd d16_4 []) (.cond (.t 36) (c16_6) (.skip))))) (.reg q16_7)))
def q16_9 : List Ins := [⟨(some 38),.mov (.t 0),none⟩,
⟨(some 39),.len (.t 38),none⟩,
⟨(some 40),.bin .gtr (.t 39) (.c (.int .i64 0)),none⟩,
⟨(some 41),.mov (.t 40),none⟩,
⟨(some 42),.mov (.t 0),(some (41,true))⟩,
⟨(some 43),.len (.t 42),(some (41,true))⟩,
⟨(some 44),.bin .leq (.t 43) (.c (.int .i64 4)),(some (41,true))⟩,
⟨(some 45),.pick (.t 41) (.t 44) (.c (.bool false)),none⟩,
⟨(some 2),.mov (.t 45),none⟩]
def ir16 : IR := .seq (.reg q16_0) (.seq (.seq (.reg q16_1) (.block 0 (.loop (c16_8)))) (.seq (.reg q16_9) (.ret)))
theorem low16 : tabOf EE 16 = some (.code 46 [.tmp 2] true ir16) := by kernel_rfl
/-! slices.Clone[[]almanac/api.User,almanac/api.User] -/
def q17_0 : List Ins := [⟨(some 2),.mov (.c (.vec true none [])),none⟩]
def q17_1 : List Ins := [⟨(some 3),.mov (.t 0),none⟩,
⟨(some 4),.eqx .sl false (.t 3) (.c (.vec true none [])),none⟩]
def q17_2 : List Ins := [⟨(some 2),.mov (.c (.vec true none [])),none⟩]
def c17_3 : IR := .seq (.reg q17_2) (.ret)
def q17_4 : List Ins := [⟨(some 5),.mkslice 50 2 0 [(.str []),(.str [])] [],none⟩,
⟨(some 6),.mov (.t 0),none⟩,
⟨(some 7),.append 50 2 32 (.t 5) (.t 6),none⟩,
⟨(some 2),.mov (.t 7),none⟩]
def ir17 : IR := .seq (.reg q17_0) (.seq (.seq (.reg q17_1) (.cond (.t 4) (c17_3) (.skip))) (.seq (.reg q17_4) (.ret)))
theorem low17 : tabOf EE 17 = some (.code 8 [.tmp 2] true ir17) := by kernel_rfl
/-! almanac/almanacref20.users -/
def q18_0 : List Ins := [⟨(some 2),.mov (.c (.bool false)),none⟩]
def q18_1 : List Ins := [⟨(some 3),.mov (.c (.int .i64 0)),none⟩]
def q18_2 : List Ins := [⟨(some 4),.mov (.t 3),none⟩,
⟨(some 5),.mov (.t 0),none⟩,
⟨(some 6),.len (.t 5),none⟩,
⟨(some 7),.bin .lss (.t 4) (.t 6),none⟩]
def d18_3 : List (Ins × Md) := [(⟨(some 10),.mov (.t 0),none⟩,.free),
(⟨(some 11),.mov (.t 3),none⟩,.free),
(⟨(some 12),.ixaddr (.sl 2) (.t 10) (.t 11),none⟩,.free),
(⟨(some 13),.off 0 (.t 12),none⟩,.free),
(⟨(some 14),.load .one (.t 13),none⟩,.free),
(⟨(some 15),.call 15 [(.t 14)],none⟩,.spine),
(⟨(some 16),.un .not (.t 15),none⟩,.free),
(⟨(some 17),.mov (.t 16),none⟩,.free),
(⟨(some 18),.mov (.t 0),(some (17,false))⟩,.free),
(⟨(some 19),.mov (.t 3),(some (17,false))⟩,.free),
(⟨(some 20),.ixaddr (.sl 2) (.t 18) (.t 19),(some (17,false))⟩,.free),
(⟨(some 21),.off 1 (.t 20),(some (17,false))⟩,.free),
(⟨(some 22),.load .one (.t 21),(some (17,false))⟩,.free),
(⟨(some 23),.call 30 [(.t 22)],(some (17,false))⟩,.spine),
(⟨(some 24),.un .not (.t 23),(some (17,false))⟩,.free),
(⟨(some 25),.pick (.t 17) (.c (.bool true)) (.t 24),none⟩,.free),
(⟨(some 26),.mov (.t 25),none⟩,.free),
(⟨(some 27),.mov (.t 3),(some (26,false))⟩,.free),
(⟨(some 28),.bin .gtr (.t 27) (.c (.int .i64 0)),(some (26,false))⟩,.free),
(⟨(some 29),.mov (.t 28),(some (26,false))⟩,.free),
(⟨(some 30),.mov (.t 0),(some (29,true))⟩,.free),
(⟨(some 31),.mov (.t 3),(some (29,true))⟩,.free),
(⟨(some 32),.bin .sub (.t 31) (.c (.int .i64 1)),(some (29,true))⟩,.free),
(⟨(some 33),.ixaddr (.sl 2) (.t 30) (.t 32),(some (29,true))⟩,.free),
(⟨(some 34),.off 0 (.t 33),(some (29,true))⟩,.free),
(⟨(some 35),.load .one (.t 34),(some (29,true))⟩,.free),
(⟨(some 36),.mov (.t 0),(some (29,true))⟩,.free),
(⟨(some 37),.mov (.t 3),(some (29,true))⟩,.free),
(⟨(some 38),.ixaddr (.sl 2) (.t 36) (.t 37),(some (29,true))⟩,.free),
(⟨(some 39),.off 0 (.t 38),(some (29,true))⟩,.free),
(⟨(some 40),.load .one (.t 39),(some (29,true))⟩,.free),
(⟨(some 41),.bin .geq (.t 35) (.t 40),(some (29,true))⟩,.free),
(⟨(some 42),.pick (.t 29) (.t 41) (.c (.bool false)),(some (26,false))⟩,.free),
(⟨(some 43),.pick (.t 26) (.c (.bool true)) (.t 42),none⟩,.free)]
def q18_4 : List Ins := [⟨(some 2),.mov (.c (.bool false)),none⟩]
def c18_5 : IR := .seq (.reg q18_4) (.ret)
def q18_6 : List Ins := [⟨(some 8),.mov (.t 3),none⟩,
⟨(some 9),.bin .add (.t 8) (.c (.int .i64 1)),none⟩,
⟨(some 3),.mov (.t 9),none⟩]
def c18_7 : IR := .seq (.seq (.reg q18_2) (.cond (.t 7) (.skip) (.exit 0))) (.seq (.block 1 (.seq (.regd d18_3 []) (.cond (.t 43) (c18_5) (.skip)))) (.reg q18_6))
def q18_8 : List Ins := [⟨(some 44),.mov (.t 0),none⟩,
⟨(some 45),.len (.t 44),none⟩,
⟨(some 46),.bin .geq (.t 45) (.c (.int .i64 1)),none⟩,
⟨(some 47),.mov (.t 46),none⟩,
⟨(some 48),.mov (.t 0),(some (47,true))⟩,
⟨(some 49),.len (.t 48),(some (47,true))⟩,
⟨(some 50),.bin .leq (.t 49) (.c (.int .i64 4)),(some (47,true))⟩,
⟨(some 51),.pick (.t 47) (.t 50) (.c (.bool false)),none⟩,
⟨(some 2),.mov (.t 51),none⟩]
def ir18 : IR := .seq (.reg q18_0) (.seq (.seq (.reg q18_1) (.block 0 (.loop (c18_7)))) (.seq (.reg q18_8) (.ret)))
theorem low18 : tabOf EE 18 = some (.code 52 [.tmp 2] true ir18) := by kernel_rfl
/-! almanac/almanacref20.SameCol -/
def q19_0 : List Ins := [⟨(some 2),.box 57 (.t 0),none⟩,
⟨(some 3),.box 57 (.t 1),none⟩,
⟨(some 4),.mov (.c (.bool false)),none⟩]
def q19_1 : List Ins := [⟨(some 9),.off 0 (.t 2),none⟩,
⟨(some 10),.load .one (.t 9),none⟩,
⟨(some 11),.off 0 (.t 3),none⟩,
⟨(some 12),.load .one (.t 11),none⟩,
⟨(some 13),.bin .neq (.t 10) (.t 12),none⟩,
⟨(some 14),.mov (.t 13),none⟩,
⟨(some 15),.off 1 (.t 2),(some (14,false))⟩,
⟨(some 16),.load .one (.t 15),(some (14,false))⟩,
⟨(some 17),.off 1 (.t 3),(some (14,false))⟩,
⟨(some 18),.load .one (.t 17),(some (14,false))⟩,
⟨(some 19),.bin .neq (.t 16) (.t 18),(some (14,false))⟩,
⟨(some 20),.pick (.t 14) (.c (.bool true)) (.t 19),none⟩,
⟨(some 21),.mov (.t 20),none⟩,
⟨(some 22),.off 2 (.t 2),(some (21,false))⟩,
⟨(some 23),.load .one (.t 22),(some (21,false))⟩,
⟨(some 24),.off 2 (.t 3),(some (21,false))⟩,
⟨(some 25),.load .one (.t 24),(some (21,false))⟩,
⟨(some 26),.bin .neq (.t 23) (.t 25),(some (21,false))⟩,
⟨(some 27),.pick (.t 21) (.c (.bool true)) (.t 26),none⟩,
⟨(some 28),.mov (.t 27),none⟩,
⟨(some 29),.off 8 (.t 2),(some (28,false))⟩,
⟨(some 30),.load .one (.t 29),(some (28,false))⟩,
⟨(some 31),.off 8 (.t 3),(some (28,false))⟩,
⟨(some 32),.load .one (.t 31),(some (28,false))⟩,
⟨(some 33),.bin .neq (.t 30) (.t 32),(some (28,false))⟩,
⟨(some 34),.pick (.t 28) (.c (.bool true)) (.t 33),none⟩,
⟨(some 35),.mov (.t 34),none⟩,
⟨(some 36),.off 9 (.t 2),(some (35,false))⟩,
⟨(some 37),.load .one (.t 36),(some (35,false))⟩,
⟨(some 38),.off 9 (.t 3),(some (35,false))⟩,
⟨(some 39),.load .one (.t 38),(some (35,false))⟩,
⟨(some 40),.bin .neq (.t 37) (.t 39),(some (35,false))⟩,
⟨(some 41),.pick (.t 35) (.c (.bool true)) (.t 40),none⟩,
⟨(some 42),.mov (.t 41),none⟩,
⟨(some 43),.off 3 (.t 2),(some (42,false))⟩,
⟨(some 44),.load .one (.t 43),(some (42,false))⟩,
⟨(some 45),.len (.t 44),(some (42,false))⟩,
⟨(some 46),.off 3 (.t 3),(some (42,false))⟩,
⟨(some 47),.load .one (.t 46),(some (42,false))⟩,
⟨(some 48),.len (.t 47),(some (42,false))⟩,
⟨(some 49),.bin .neq (.t 45) (.t 48),(some (42,false))⟩,
⟨(some 50),.pick (.t 42) (.c (.bool true)) (.t 49),none⟩,
⟨(some 51),.mov (.t 50),none⟩,
⟨(some 52),.off 4 (.t 2),(some (51,false))⟩,
⟨(some 53),.load .one (.t 52),(some (51,false))⟩,
⟨(some 54),.len (.t 53),(some (51,false))⟩,
⟨(some 55),.off 4 (.t 3),(some (51,false))⟩,
⟨(some 56),.load .one (.t 55),(some (51,false))⟩,
⟨(some 57),.len (.t 56),(some (51,false))⟩,
⟨(some 58),.bin .neq (.t 54) (.t 57),(some (51,false))⟩,
⟨(some 59),.pick (.t 51) (.c (.bool true)) (.t 58),none⟩,
⟨(some 60),.mov (.t 59),none⟩,
⟨(some 61),.off 5 (.t 2),(some (60,false))⟩,
⟨(some 62),.load .one (.t 61),(some (60,false))⟩,
⟨(some 63),.len (.t 62),(some (60,false))⟩,
⟨(some 64),.off 5 (.t 3),(some (60,false))⟩,
⟨(some 65),.load .one (.t 64),(some (60,false))⟩,
⟨(some 66),.len (.t 65),(some (60,false))⟩,
⟨(some 67),.bin .neq (.t 63) (.t 66),(some (60,false))⟩,
⟨(some 68),.pick (.t 60) (.c (.bool true)) (.t 67),none⟩,
⟨(some 69),.mov (.t 68),none⟩,
⟨(some 70),.off 7 (.t 2),(some (69,false))⟩,
⟨(some 71),.load .one (.t 70),(some (69,false))⟩,
⟨(some 72),.len (.t 71),(some (69,false))⟩,
⟨(some 73),.off 7 (.t 3),(some (69,false))⟩,
⟨(some 74),.load .one (.t 73),(some (69,false))⟩,
⟨(some 75),.len (.t 74),(some (69,false))⟩,
⟨(some 76),.bin .neq (.t 72) (.t 75),(some (69,false))⟩,
⟨(some 77),.pick (.t 69) (.c (.bool true)) (.t 76),none⟩,
⟨(some 78),.mov (.t 77),none⟩,
⟨(some 79),.off 6 (.t 2),(some (78,false))⟩,
⟨(some 80),.load .one (.t 79),(some (78,false))⟩,
⟨(some 81),.off 6 (.t 3),(some (78,false))⟩,
⟨(some 82),.load .one (.t 81),(some (78,false))⟩,
⟨(some 83),.call 31 [(.t 80),(.t 82)],(some (78,false))⟩,
⟨(some 84),.un .not (.t 83),(some (78,false))⟩,
⟨(some 85),.pick (.t 78) (.c (.bool true)) (.t 84),none⟩]
def q19_2 : List Ins := [⟨(some 4),.mov (.c (.bool false)),none⟩]
def c19_3 : IR := .seq (.reg q19_2) (.ret)
def q19_4 : List Ins := [⟨(some 5),.mov (.c (.int .i64 0)),none⟩]
def q19_5 : List Ins := [⟨(some 86),.mov (.t 5),none⟩,
⟨(some 87),.off 3 (.t 2),none⟩,
⟨(some 88),.load .one (.t 87),none⟩,
⟨(some 89),.len (.t 88),none⟩,
⟨(some 90),.bin .lss (.t 86) (.t 89),none⟩]
def d19_6 : List (Ins × Md) := [(⟨(some 93),.off 3 (.t 2),none⟩,.free),
(⟨(some 94),.load .one (.t 93),none⟩,.free),
(⟨(some 95),.mov (.t 5),none⟩,.free),
(⟨(some 96),.ixaddr (.sl 3) (.t 94) (.t 95),none⟩,.free),
(⟨(some 97),.load (.many 3) (.t 96),none⟩,.free),
(⟨(some 98),.off 3 (.t 3),none⟩,.free),
(⟨(some 99),.load .one (.t 98),none⟩,.free),
(⟨(some 100),.mov (.t 5),none⟩,.free),
(⟨(some 101),.ixaddr (.sl 3) (.t 99) (.t 100),none⟩,.free),
(⟨(some 102),.load (.many 3) (.t 101),none⟩,.free),
(⟨(some 103),.eqs [.s,.s,.s] true (.t 97) (.t 102),none⟩,.free)]
def q19_7 : List Ins := [⟨(some 4),.mov (.c (.bool false)),none⟩]
def c19_8 : IR := .seq (.reg q19_7) (.ret)
def q19_9 : List Ins := [⟨(some 91),.mov (.t 5),none⟩,
⟨(some 92),.bin .add (.t 91) (.c (.int .i64 1)),none⟩,
⟨(some 5),.mov (.t 92),none⟩]
def c19_10 : IR := .seq (.seq (.reg q19_5) (.cond (.t 90) (.skip) (.exit 0))) (.seq (.block 1 (.seq (.regd d19_6 []) (.cond (.t 103) (c19_8) (.skip)))) (.reg q19_9))
def q19_11 : List Ins := [⟨(some 6),.mov (.c (.int .i64 0)),none⟩]
def q19_12 : List Ins := [⟨(some 104),.mov (.t 6),none⟩,
⟨(some 105),.off 4 (.t 2),none⟩,
⟨(some 106),.load .one (.t 105),none⟩,
⟨(some 107),.len (.t 106),none⟩,
⟨(some 108),.bin .lss (.t 104) (.t 107),none⟩]
def d19_13 : List (Ins × Md) := [(⟨(some 111),.off 4 (.t 2),none⟩,.free),
(⟨(some 112),.load .one (.t 111),none⟩,.free),
(⟨(some 113),.mov (.t 6),none⟩,.free),
(⟨(some 114),.ixaddr (.sl 2) (.t 112) (.t 113),none⟩,.free),
(⟨(some 115),.load (.many 2) (.t 114),none⟩,.free),
(⟨(some 116),.off 4 (.t 3),none⟩,.free),
(⟨(some 117),.load .one (.t 116),none⟩,.free),
(⟨(some 118),.mov (.t 6),none⟩,.free),
(⟨(some 119),.ixaddr (.sl 2) (.t 117) (.t 118),none⟩,.free),
(⟨(some 120),.load (.many 2) (.t 119),none⟩,.free),
(⟨(some 121),.eqs [.s,.b] true (.t 115) (.t 120),none⟩,.free)]
def q19_14 : List Ins := [⟨(some 4),.mov (.c (.bool false)),none⟩]
def c19_15 : IR := .seq (.reg q19_14) (.ret)
def q19_16 : List Ins := [⟨(some 109),.mov (.t 6),none⟩,
⟨(some 110),.bin .add (.t 109) (.c (.int .i64 1)),none⟩,
⟨(some 6),.mov (.t 110),none⟩]
def c19_17 : IR := .seq (.seq (.reg q19_12) (.cond (.t 108) (.skip) (.exit 2))) (.seq (.block 3 (.seq (.regd d19_13 []) (.cond (.t 121) (c19_15) (.skip)))) (.reg q19_16))
def q19_18 : List Ins := [⟨(some 7),.mov (.c (.int .i64 0)),none⟩]
def q19_19 : List Ins := [⟨(some 122),.mov (.t 7),none⟩,
⟨(some 123),.off 5 (.t 2),none⟩,
⟨(some 124),.load .one (.t 123),none⟩,
⟨(some 125),.len (.t 124),none⟩,
⟨(some 126),.bin .lss (.t 122) (.t 125),none⟩]
def d19_20 : List (Ins × Md) := [(⟨(some 129),.off 5 (.t 2),none⟩,.free),
(⟨(some 130),.load .one (.t 129),none⟩,.free),
(⟨(some 131),.mov (.t 7),none⟩,.free),
(⟨(some 132),.ixaddr (.sl 4) (.t 130) (.t 131),none⟩,.free),
(⟨(some 133),.load (.many 4) (.t 132),none⟩,.free),
(⟨(some 134),.off 5 (.t 3),none⟩,.free),
(⟨(some 135),.load .one (.t 134),none⟩,.free),
(⟨(some 136),.mov (.t 7),none⟩,.free),
(⟨(some 137),.ixaddr (.sl 4) (.t 135) (.t 136),none⟩,.free),
(⟨(some 138),.load (.many 4) (.t 137),none⟩,.free),
(⟨(some 139),.eqs [.s,.s,.i,.i] true (.t 133) (.t 138),none⟩,.free)]
def q19_21 : List Ins := [⟨(some 4),.mov (.c (.bool false)),none⟩]
def c19_22 : IR := .seq (.reg q19_21) (.ret)
def q19_23 : List Ins := [⟨(some 127),.mov (.t 7),none⟩,
⟨(some 128),.bin .add (.t 127) (.c (.int .i64 1)),none⟩,
⟨(some 7),.mov (.t 128),none⟩]
def c19_24 : IR := .seq (.seq (.reg q19_19) (.cond (.t 126) (.skip) (.exit 4))) (.seq (.block 5 (.seq (.regd d19_20 []) (.cond (.t 139) (c19_22) (.skip)))) (.reg q19_23))
def q19_25 : List Ins := [⟨(some 8),.mov (.c (.int .i64 0)),none⟩]
def q19_26 : List Ins := [⟨(some 140),.mov (.t 8),none⟩,
⟨(some 141),.off 7 (.t 2),none⟩,
⟨(some 142),.load .one (.t 141),none⟩,
⟨(some 143),.len (.t 142),none⟩,
⟨(some 144),.bin .lss (.t 140) (.t 143),none⟩]
def d19_27 : List (Ins × Md) := [(⟨(some 147),.off 7 (.t 2),none⟩,.free),
(⟨(some 148),.load .one (.t 147),none⟩,.free),
(⟨(some 149),.mov (.t 8),none⟩,.free),
(⟨(some 150),.ixaddr (.sl 3) (.t 148) (.t 149),none⟩,.free),
(⟨(some 151),.load (.many 3) (.t 150),none⟩,.free),
(⟨(some 152),.off 7 (.t 3),none⟩,.free),
(⟨(some 153),.load .one (.t 152),none⟩,.free),
(⟨(some 154),.mov (.t 8),none⟩,.free),
(⟨(some 155),.ixaddr (.sl 3) (.t 153) (.t 154),none⟩,.free),
(⟨(some 156),.load (.many 3) (.t 155),none⟩,.free),
(⟨(some 157),.eqs [.s,.i,.b] true (.t 151) (.t 156),none⟩,.free)]
def q19_28 : List Ins := [⟨(some 4),.mov (.c (.bool false)),none⟩]
def c19_29 : IR := .seq (.reg q19_28) (.ret)
def q19_30 : List Ins := [⟨(some 145),.mov (.t 8),none⟩,
⟨(some 146),.bin .add (.t 145) (.c (.int .i64 1)),none⟩,
⟨(some 8),.mov (.t 146),none⟩]
def c19_31 : IR := .seq (.seq (.reg q19_26) (.cond (.t 144) (.skip) (.exit 6))) (.seq (.block 7 (.seq (.regd d19_27 []) (.cond (.t 157) (c19_29) (.skip)))) (.reg q19_30))
def q19_32 : List Ins := [⟨(some 4),.mov (.c (.bool true)),none⟩]
def ir19 : IR := .seq (.reg q19_0) (.seq (.seq (.reg q19_1) (.cond (.t 85) (c19_3) (.skip))) (.seq (.seq (.reg q19_4) (.block 0 (.loop (c19_10)))) (.seq (.seq (.reg q19_11) (.block 2 (.loop (c19_17)))) (.seq (.seq (.reg q19_18) (.block 4 (.loop (c19_24)))) (.seq (.seq (.reg q19_25) (.block 6 (.loop (c19_31)))) (.seq (.reg q19_32) (.ret)))))))
theorem low19 : tabOf EE 19 = some (.code 158 [.tmp 4] true ir19) := by kernel_rfl
/-! internal/stringslite.CutPrefix -/
def q24_0 : List Ins := [⟨(some 4),.mov (.c (.str [])),none⟩,
⟨(some 5),.mov (.c (.bool false)),none⟩]
def q24_1 : List Ins := [⟨(some 6),.mov (.t 0),none⟩,
⟨(some 7),.mov (.t 1),none⟩,
⟨(some 8),.call 57 [(.t 6),(.t 7)],none⟩,
⟨(some 9),.un .not (.t 8),none⟩]
def q24_2 : List Ins := [⟨(some 10),.mov (.t 0),none⟩,
⟨(some 4),.mov (.t 10),none⟩,
⟨(some 5),.mov (.c (.bool false)),none⟩]
def c24_3 : IR := .seq (.reg q24_2) (.ret)
def q24_4 : List Ins := [⟨(some 11),.mov (.t 0),none⟩,
⟨(some 12),.mov (.t 1),none⟩,
⟨(some 13),.slen (.t 12),none⟩,
⟨(some 14),.slice .str (.t 11) (some (.t 13)) none none,none⟩,
⟨(some 4),.mov (.t 14),none⟩,
⟨(some 5),.mov (.c (.bool true)),none⟩]
def ir24 : IR := .seq (.reg q24_0) (.seq (.seq (.reg q24_1) (.cond (.t 9) (c24_3) (.skip))) (.seq (.reg q24_4) (.ret)))
theorem low24 : tabOf EE 24 = some (.code 15 [.tmp 4,.tmp 5] false ir24) := by kernel_rfl
/-! strings.genSplit -/
def q25_0 : List Ins := [⟨(some 8),.mov (.c (.vec true none [])),none⟩]
def q25_1 : List Ins := [⟨(some 12),.mov (.t 3),none⟩,
⟨(some 13),.bin .eql (.t 12) (.c (.int .i64 0)),none⟩]
def q25_2 : List Ins := [⟨(some 8),.mov (.c (.vec true none [])),none⟩]
def c25_3 : IR := .seq (.reg q25_2) (.ret)
def q25_4 : List Ins := [⟨(some 14),.mov (.t 1),none⟩,
⟨(some 15),.bin .eql (.t 14) (.c (.str [])),none⟩]
def q25_5 : List Ins := [⟨(some 16),.mov (.t 0),none⟩,
⟨(some 17),.mov (.t 3),none⟩,
⟨(some 18),.call 58 [(.t 16),(.t 17)],none⟩,
⟨(some 8),.mov (.t 18),none⟩]
def c25_6 : IR := .seq (.reg q25_5) (.ret)
def q25_7 : List Ins := [⟨(some 19),.mov (.t 3),none⟩,
⟨(some 20),.bin .lss (.t 19) (.c (.int .i64 0)),none⟩]
def q25_8 : List Ins := [⟨(some 21),.mov (.t 0),none⟩,
⟨(some 22),.mov (.t 1),none⟩,
⟨(some 23),.call 59 [(.t 21),(.t 22)],none⟩,
⟨(some 24),.bin .add (.t 23) (.c (.int .i64 1)),none⟩,
⟨(some 3),.mov (.t 24),none⟩]
def c25_9 : IR := .reg q25_8
def q25_10 : List Ins := [⟨(some 25),.mov (.t 3),none⟩,
⟨(some 26),.mov (.t 0),none⟩,
⟨(some 27),.slen (.t 26),none⟩,
⟨(some 28),.bin .add (.t 27) (.c (.int .i64 1)),none⟩,
⟨(some 29),.min [(.t 25),(.t 28)],none⟩,
⟨(some 3),.mov (.t 29),none⟩]
def q25_11 : List Ins := [⟨(some 30),.mov (.t 3),none⟩,
⟨(some 31),.makesl 9 1 16 [(.str [])] (.t 30) (.t 30),none⟩,
⟨(some 9),.mov (.t 31),none⟩]
def q25_12 : List Ins := [⟨(some 32),.mov (.t 3),none⟩,
⟨(some 33),.bin .sub (.t 32) (.c (.int .i64 1)),none⟩,
⟨(some 3),.mov (.t 33),none⟩]
def q25_13 : List Ins := [⟨(some 10),.mov (.c (.int .i64 0)),none⟩]
def q25_14 : List Ins := [⟨(some 34),.mov (.t 10),none⟩,
⟨(some 35),.mov (.t 3),none⟩,
⟨(some 36),.bin .lss (.t 34) (.t 35),none⟩]
def q25_15 : List Ins := [⟨(some 37),.mov (.t 0),none⟩,
⟨(some 38),.mov (.t 1),none⟩,
⟨(some 39),.call 60 [(.t 37),(.t 38)],none⟩,
⟨(some 11),.mov (.t 39),none⟩]
def q25_16 : List Ins := [⟨(some 40),.mov (.t 11),none⟩,
⟨(some 41),.bin .lss (.t 40) (.c (.int .i64 0)),none⟩]
def q25_17 : List Ins := [⟨(some 42),.mov (.t 9),none⟩,
⟨(some 43),.mov (.t 10),none⟩,
⟨(some 44),.mov (.t 0),none⟩,
⟨(some 45),.mov (.t 11),none⟩,
⟨(some 46),.mov (.t 2),none⟩,
⟨(some 47),.bin .add (.t 45) (.t 46),none⟩,
⟨(some 48),.slice .str (.t 44) none (some (.t 47)) none,none⟩,
⟨(some 49),.ixaddr (.sl 1) (.t 42) (.t 43),none⟩,
⟨none,.store 1 (.t 49) (.t 48),none⟩]
def q25_18 : List Ins := [⟨(some 50),.mov (.t 0),none⟩,
⟨(some 51),.mov (.t 11),none⟩,
⟨(some 52),.mov (.t 1),none⟩,
⟨(some 53),.slen (.t 52),none⟩,
⟨(some 54),.bin .add (.t 51) (.t 53),none⟩,
⟨(some 55),.slice .str (.t 50) (some (.t 54)) none none,none⟩,
⟨(some 0),.mov (.t 55),none⟩]
def q25_19 : List Ins := [⟨(some 56),.mov (.t 10),none⟩,
⟨(some 57),.bin .add (.t 56) (.c (.int .i64 1)),none⟩,
⟨(some 10),.mov (.t 57),none⟩]
def c25_20 : IR := .seq (.seq (.reg q25_14) (.cond (.t 36) (.skip) (.exit 0))) (.block 1 (.seq (.reg q25_15) (.seq (.seq (.reg q25_16) (.cond (.t 41) (.exit 0) (.skip))) (.seq (.reg q25_17) (.seq (.reg q25_18) (.reg q25_19))))))
def q25_21 : List Ins := [⟨(some 58),.mov (.t 9),none⟩,
⟨(some 59),.mov (.t 10),none⟩,
⟨(some 60),.mov (.t 0),none⟩,
⟨(some 61),.ixaddr (.sl 1) (.t 58) (.t 59),none⟩,
⟨none,.store 1 (.t 61) (.t 60),none⟩]
def q25_22 : List Ins := [⟨(some 62),.mov (.t 9),none⟩,
⟨(some 63),.mov (.t 10),none⟩,
⟨(some 64),.bin .add (.t 63) (.c (.int .i64 1)),none⟩,
⟨(some 65),.slice (.sl 1) (.t 62) none (some (.t 64)) none,none⟩,
⟨(some 8),.mov (.t 65),none⟩]
def ir25 : IR := .seq (.reg q25_0) (.seq (.seq (.reg q25_1) (.cond (.t 13) (c25_3) (.skip))) (.seq (.seq (.reg q25_4) (.cond (.t 15) (c25_6) (.skip))) (.seq (.seq (.reg q25_7) (.cond (.t 20) (c25_9) (.skip))) (.seq (.reg q25_10) (.seq (.reg q25_11) (.seq (.reg q25_12) (.seq (.reg q25_13) (.seq (.block 0 (.loop (c25_20))) (.seq (.reg q25_21) (.seq (.reg q25_22) (.ret)))))))))))
theorem low25 : tabOf EE 25 = some (.code 66 [.tmp 8] false ir25) := by kernel_rfl
/-! slices.IndexFunc[[]string,string] -/
def q26_0 : List Ins := [⟨(some 4),.mov (.c (.int .i64 0)),none⟩]
def q26_1 : List Ins := [⟨(some 6),.mov (.t 0),none⟩,
⟨(some 7),.len (.t 6),none⟩,
⟨(some 8),.mov (.c (.int .i64 0)),none⟩]
def q26_2 : List Ins := [⟨(some 9),.bin .lss (.t 8) (.t 7),none⟩]
def q26_3 : List Ins := [⟨(some 10),.mov (.t 8),none⟩,
⟨(some 5),.mov (.t 10),none⟩]
def q26_4 : List Ins := [⟨(some 11),.mov (.t 1),none⟩,
⟨(some 12),.mov (.t 0),none⟩,
⟨(some 13),.mov (.t 5),none⟩,
⟨(some 14),.ixaddr (.sl 1) (.t 12) (.t 13),none⟩,
⟨(some 15),.load .one (.t 14),none⟩,
⟨(some 16),.callv (.t 11) [(.t 15)],none⟩]
def q26_5 : List Ins := [⟨(some 17),.mov (.t 5),none⟩,
⟨(some 4),.mov (.t 17),none⟩]
def c26_6 : IR := .seq (.reg q26_5) (.ret)
def q26_7 : List Ins := [⟨(some 18),.bin .add (.t 8) (.c (.int .i64 1)),none⟩,
⟨(some 8),.mov (.t 18),none⟩]
def c26_8 : IR := .seq (.reg q26_2) (.seq (.cond (.t 9) (.skip) (.exit 0)) (.seq (.block 1 (.seq (.reg q26_3) (.seq (.reg q26_4) (.cond (.t 16) (c26_6) (.skip))))) (.reg q26_7)))
def q26_9 : List Ins := [⟨(some 4),.mov (.c (.int .i64 (-1))),none⟩]
def ir26 : IR := .seq (.reg q26_0) (.seq (.seq (.reg q26_1) (.block 0 (.loop (c26_8)))) (.seq (.reg q26_9) (.ret)))
theorem low26 : tabOf EE 26 = some (.code 19 [.tmp 4] false ir26) := by kernel_rfl
/-! almanac/dir.Name$1 -/
def q27_0 : List Ins := [⟨(some 2),.mov (.c (.bool false)),none⟩]
def q27_1 : List Ins := [⟨(some 3),.mov (.t 0),none⟩,
⟨(some 4),.bin .lss (.t 3) (.c (.int .i32 33)),none⟩,
⟨(some 5),.mov (.t 4),none⟩,
⟨(some 6),.mov (.t 0),(some (5,false))⟩,
⟨(some 7),.bin .gtr (.t 6) (.c (.int .i32 126)),(some (5,false))⟩,
⟨(some 8),.pick (.t 5) (.c (.bool true)) (.t 7),none⟩,
⟨(some 9),.mov (.t 8),none⟩,
⟨(some 10),.mov (.t 0),(some (9,false))⟩,
⟨(some 11),.bin .eql (.t 10) (.c (.int .i32 47)),(some (9,false))⟩,
⟨(some 12),.pick (.t 9) (.c (.bool true)) (.t 11),none⟩,
⟨(some 2),.mov (.t 12),none⟩]
def ir27 : IR := .seq (.reg q27_0) (.seq (.reg q27_1) (.ret))
theorem low27 : tabOf EE 27 = some (.code 13 [.tmp 2] false ir27) := by kernel_rfl
/-! strings.IndexFunc -/
def q28_0 : List Ins := [⟨(some 4),.mov (.c (.int .i64 0)),none⟩]
def q28_1 : List Ins := [⟨(some 5),.mov (.t 0),none⟩,
⟨(some 6),.mov (.t 1),none⟩,
⟨(some 7),.call 61 [(.t 5),(.t 6),(.c (.bool true))],none⟩,
⟨(some 4),.mov (.t 7),none⟩]
def ir28 : IR := .seq (.reg q28_0) (.seq (.reg q28_1) (.ret))
theorem low28 : tabOf EE 28 = some (.code 8 [.tmp 4] false ir28) := by kernel_rfl
/-! almanac/store.pass -/
def q29_0 : List Ins := [⟨(some 2),.mov (.c (.bool false)),none⟩]
def q29_1 : List Ins := [⟨(some 3),.mov (.t 0),none⟩,
⟨(some 4),.bin .neq (.t 3) (.c (.str [])),none⟩,
⟨(some 5),.mov (.t 4),none⟩,
⟨(some 6),.mov (.t 0),(some (5,true))⟩,
⟨(some 7),.slen (.t 6),(some (5,true))⟩,
⟨(some 8),.bin .leq (.t 7) (.c (.int .i64 24)),(some (5,true))⟩,
⟨(some 9),.pick (.t 5) (.t 8) (.c (.bool false)),none⟩,
⟨(some 10),.mov (.t 9),none⟩,
⟨(some 11),.mov (.t 0),(some (10,true))⟩,
⟨(some 12),.call 28 [(.t 11),(.c (.fn (.func 62) [] []))],(some (10,true))⟩,
⟨(some 13),.bin .lss (.t 12) (.c (.int .i64 0)),(some (10,true))⟩,
⟨(some 14),.pick (.t 10) (.t 13) (.c (.bool false)),none⟩,
⟨(some 2),.mov (.t 14),none⟩]
def ir29 : IR := .seq (.reg q29_0) (.seq (.reg q29_1) (.ret))
theorem low29 : tabOf EE 29 = some (.code 15 [.tmp 2] false ir29) := by kernel_rfl
/-! almanac/almanacref20.pass -/
def q30_0 : List Ins := [⟨(some 2),.mov (.c (.bool false)),none⟩]
def q30_1 : List Ins := [⟨(some 3),.mov (.c (.int .i64 0)),none⟩]
def q30_2 : List Ins := [⟨(some 4),.mov (.t 3),none⟩,
⟨(some 5),.mov (.t 0),none⟩,
⟨(some 6),.slen (.t 5),none⟩,
⟨(some 7),.bin .lss (.t 4) (.t 6),none⟩]
def q30_3 : List Ins := [⟨(some 10),.mov (.t 0),none⟩,
⟨(some 11),.mov (.t 3),none⟩,
⟨(some 12),.idx .str .one (.t 10) (.t 11),none⟩,
⟨(some 13),.bin .lss (.t 12) (.c (.int .u8 33)),none⟩,
⟨(some 14),.mov (.t 13),none⟩,
⟨(some 15),.mov (.t 0),(some (14,false))⟩,
⟨(some 16),.mov (.t 3),(some (14,false))⟩,
⟨(some 17),.idx .str .one (.t 15) (.t 16),(some (14,false))⟩,
⟨(some 18),.bin .gtr (.t 17) (.c (.int .u8 126)),(some (14,false))⟩,
⟨(some 19),.pick (.t 14) (.c (.bool true)) (.t 18),none⟩,
⟨(some 20),.mov (.t 19),none⟩,
⟨(some 21),.mov (.t 0),(some (20,false))⟩,
⟨(some 22),.mov (.t 3),(some (20,false))⟩,
⟨(some 23),.idx .str .one (.t 21) (.t 22),(some (20,false))⟩,
⟨(some 24),.bin .eql (.t 23) (.c (.int .u8 58)),(some (20,false))⟩,
⟨(some 25),.pick (.t 20) (.c (.bool true)) (.t 24),none⟩]
def q30_4 : List Ins := [⟨(some 2),.mov (.c (.bool false)),none⟩]
def c30_5 : IR := .seq (.reg q30_4) (.ret)
def q30_6 : List Ins := [⟨(some 8),.mov (.t 3),none⟩,
⟨(some 9),.bin .add (.t 8) (.c (.int .i64 1)),none⟩,
⟨(some 3),.mov (.t 9),none⟩]
def c30_7 : IR := .seq (.seq (.reg q30_2) (.cond (.t 7) (.skip) (.exit 0))) (.seq (.block 1 (.seq (.reg q30_3) (.cond (.t 25) (c30_5) (.skip)))) (.reg q30_6))
def q30_8 : List Ins := [⟨(some 26),.mov (.t 0),none⟩,
⟨(some 27),.bin .neq (.t 26) (.c (.str [])),none⟩,
⟨(some 28),.mov (.t 27),none⟩,
⟨(some 29),.mov (.t 0),(some (28,true))⟩,
⟨(some 30),.slen (.t 29),(some (28,true))⟩,
⟨(some 31),.bin .leq (.t 30) (.c (.int .i64 24)),(some (28,true))⟩,
⟨(some 32),.pick (.t 28) (.t 31) (.c (.bool false)),none⟩,
⟨(some 2),.mov (.t 32),none⟩]
def ir30 : IR := .seq (.reg q30_0) (.seq (.seq (.reg q30_1) (.block 0 (.loop (c30_7)))) (.seq (.reg q30_8) (.ret)))
theorem low30 : tabOf EE 30 = some (.code 33 [.tmp 2] false ir30) := by kernel_rfl
/-! almanac/almanacref19.Same -/
def q31_0 : List Ins := [⟨(some 4),.mov (.c (.bool false)),none⟩]
def q31_1 : List Ins := [⟨(some 6),.mov (.t 0),none⟩,
⟨(some 7),.len (.t 6),none⟩,
⟨(some 8),.mov (.t 1),none⟩,
⟨(some 9),.len (.t 8),none⟩,
⟨(some 10),.bin .neq (.t 7) (.t 9),none⟩]
def q31_2 : List Ins := [⟨(some 4),.mov (.c (.bool false)),none⟩]
def c31_3 : IR := .seq (.reg q31_2) (.ret)
def q31_4 : List Ins := [⟨(some 5),.mov (.c (.int .i64 0)),none⟩]
def q31_5 : List Ins := [⟨(some 11),.mov (.t 5),none⟩,
⟨(some 12),.mov (.t 0),none⟩,
⟨(some 13),.len (.t 12),none⟩,
⟨(some 14),.bin .lss (.t 11) (.t 13),none⟩]
def d31_6 : List (Ins × Md) := [(⟨(some 17),.mov (.t 0),none⟩,.free),
(⟨(some 18),.mov (.t 5),none⟩,.free),
(⟨(some 19),.ixaddr (.sl 3) (.t 17) (.t 18),none⟩,.free),
(⟨(some 20),.load (.many 3) (.t 19),none⟩,.free),
(⟨(some 21),.mov (.t 1),none⟩,.free),
(⟨(some 22),.mov (.t 5),none⟩,.free),
(⟨(some 23),.ixaddr (.sl 3) (.t 21) (.t 22),none⟩,.free),
(⟨(some 24),.load (.many 3) (.t 23),none⟩,.free),
(⟨(some 25),.eqs [.s,.i,.i] true (.t 20) (.t 24),none⟩,.free)]
def q31_7 : List Ins := [⟨(some 4),.mov (.c (.bool false)),none⟩]
def c31_8 : IR := .seq (.reg q31_7) (.ret)
def q31_9 : List Ins := [⟨(some 15),.mov (.t 5),none⟩,
⟨(some 16),.bin .add (.t 15) (.c (.int .i64 1)),none⟩,
⟨(some 5),.mov (.t 16),none⟩]
def c31_10 : IR := .seq (.seq (.reg q31_5) (.cond (.t 14) (.skip) (.exit 0))) (.seq (.block 1 (.seq (.regd d31_6 []) (.cond (.t 25) (c31_8) (.skip)))) (.reg q31_9))
def q31_11 : List Ins := [⟨(some 4),.mov (.c (.bool true)),none⟩]
def ir31 : IR := .seq (.reg q31_0) (.seq (.seq (.reg q31_1) (.cond (.t 10) (c31_3) (.skip))) (.seq (.seq (.reg q31_4) (.block 0 (.loop (c31_10)))) (.seq (.reg q31_11) (.ret))))
theorem low31 : tabOf EE 31 = some (.code 26 [.tmp 4] true ir31) := by kernel_rfl
/-! internal/stringslite.HasPrefix -/
def q57_0 : List Ins := [⟨(some 4),.mov (.c (.bool false)),none⟩]
def q57_1 : List Ins := [⟨(some 5),.mov (.t 0),none⟩,
⟨(some 6),.slen (.t 5),none⟩,
⟨(some 7),.mov (.t 1),none⟩,
⟨(some 8),.slen (.t 7),none⟩,
⟨(some 9),.bin .geq (.t 6) (.t 8),none⟩,
⟨(some 10),.mov (.t 9),none⟩,
⟨(some 11),.mov (.t 0),(some (10,true))⟩,
⟨(some 12),.mov (.t 1),(some (10,true))⟩,
⟨(some 13),.slen (.t 12),(some (10,true))⟩,
⟨(some 14),.slice .str (.t 11) none (some (.t 13)) none,(some (10,true))⟩,
⟨(some 15),.mov (.t 1),(some (10,true))⟩,
⟨(some 16),.bin .eql (.t 14) (.t 15),(some (10,true))⟩,
⟨(some 17),.pick (.t 10) (.t 16) (.c (.bool false)),none⟩,
⟨(some 4),.mov (.t 17),none⟩]
def ir57 : IR := .seq (.reg q57_0) (.seq (.reg q57_1) (.ret))
theorem low57 : tabOf EE 57 = some (.code 18 [.tmp 4] false ir57) := by kernel_rfl
/-! strings.Count -/
def q59_0 : List Ins := [⟨(some 4),.mov (.c (.int .i64 0)),none⟩]
def q59_1 : List Ins := [⟨(some 7),.mov (.t 1),none⟩,
⟨(some 8),.slen (.t 7),none⟩,
⟨(some 9),.bin .eql (.t 8) (.c (.int .i64 0)),none⟩]
def q59_2 : List Ins := [⟨(some 10),.mov (.t 0),none⟩,
⟨(some 11),.call 98 [(.t 10)],none⟩,
⟨(some 12),.bin .add (.t 11) (.c (.int .i64 1)),none⟩,
⟨(some 4),.mov (.t 12),none⟩]
def c59_3 : IR := .seq (.reg q59_2) (.ret)
def q59_4 : List Ins := [⟨(some 13),.mov (.t 1),none⟩,
⟨(some 14),.slen (.t 13),none⟩,
⟨(some 15),.bin .eql (.t 14) (.c (.int .i64 1)),none⟩]
def q59_5 : List Ins := [⟨(some 16),.mov (.t 0),none⟩,
⟨(some 17),.mov (.t 1),none⟩,
⟨(some 18),.idx .str .one (.t 17) (.c (.int .i64 0)),none⟩,
⟨(some 19),.call 100 [(.t 16),(.t 18)],none⟩,
⟨(some 4),.mov (.t 19),none⟩]
def c59_6 : IR := .seq (.reg q59_5) (.ret)
def q59_7 : List Ins := [⟨(some 5),.mov (.c (.int .i64 0)),none⟩]
def q59_8 : List Ins := [⟨(some 20),.mov (.t 0),none⟩,
⟨(some 21),.mov (.t 1),none⟩,
⟨(some 22),.call 60 [(.t 20),(.t 21)],none⟩,
⟨(some 6),.mov (.t 22),none⟩]
def q59_9 : List Ins := [⟨(some 23),.mov (.t 6),none⟩,
⟨(some 24),.bin .eql (.t 23) (.c (.int .i64 (-1))),none⟩]
def q59_10 : List Ins := [⟨(some 25),.mov (.t 5),none⟩,
⟨(some 4),.mov (.t 25),none⟩]
def c59_11 : IR := .seq (.reg q59_10) (.ret)
def q59_12 : List Ins := [⟨(some 26),.mov (.t 5),none⟩,
⟨(some 27),.bin .add (.t 26) (.c (.int .i64 1)),none⟩,
⟨(some 5),.mov (.t 27),none⟩]
def q59_13 : List Ins := [⟨(some 28),.mov (.t 0),none⟩,
⟨(some 29),.mov (.t 6),none⟩,
⟨(some 30),.mov (.t 1),none⟩,
⟨(some 31),.slen (.t 30),none⟩,
⟨(some 32),.bin .add (.t 29) (.t 31),none⟩,
⟨(some 33),.slice .str (.t 28) (some (.t 32)) none none,none⟩,
⟨(some 0),.mov (.t 33),none⟩]
def c59_14 : IR := .block 1 (.seq (.reg q59_8) (.seq (.seq (.reg q59_9) (.cond (.t 24) (c59_11) (.skip))) (.seq (.reg q59_12) (.reg q59_13))))
def ir59 : IR := .seq (.reg q59_0) (.seq (.seq (.reg q59_1) (.cond (.t 9) (c59_3) (.skip))) (.seq (.seq (.reg q59_4) (.cond (.t 15) (c59_6) (.skip))) (.seq (.reg q59_7) (.block 0 (.loop (c59_14))))))
theorem low59 : tabOf EE 59 = some (.code 34 [.tmp 4] false ir59) := by kernel_rfl
/-! strings.Index -/
def q60_0 : List Ins := [⟨(some 4),.mov (.c (.int .i64 0)),none⟩]
def q60_1 : List Ins := [⟨(some 5),.mov (.t 0),none⟩,
⟨(some 6),.mov (.t 1),none⟩,
⟨(some 7),.call 101 [(.t 5),(.t 6)],none⟩,
⟨(some 4),.mov (.t 7),none⟩]
def ir60 : IR := .seq (.reg q60_0) (.seq (.reg q60_1) (.ret))
theorem low60 : tabOf EE 60 = some (.code 8 [.tmp 4] false ir60) := by kernel_rfl
/-! strings.indexFunc -/
def q61_0 : List Ins := [⟨(some 6),.mov (.c (.int .i64 0)),none⟩]
def q61_1 : List Ins := [⟨(some 9),.mov (.t 0),none⟩,
⟨(some 10),.range (.t 9),none⟩]
def q61_2 : List Ins := [⟨(some 11),.next (.t 10),none⟩,
⟨(some 12),.ext (.t 11) 0,none⟩]
def q61_3 : List Ins := [⟨(some 13),.ext (.t 11) 1,none⟩,
⟨(some 14),.ext (.t 11) 2,none⟩,
⟨(some 7),.mov (.t 13),none⟩,
⟨(some 8),.mov (.t 14),none⟩]
def q61_4 : List Ins := [⟨(some 15),.mov (.t 1),none⟩,
⟨(some 16),.mov (.t 8),none⟩,
⟨(some 17),.callv (.t 15) [(.t 16)],none⟩,
⟨(some 18),.mov (.t 2),none⟩,
⟨(some 19),.eqx .b false (.t 17) (.t 18),none⟩]
def q61_5 : List Ins := [⟨(some 20),.mov (.t 7),none⟩,
⟨(some 6),.mov (.t 20),none⟩]
def c61_6 : IR := .seq (.reg q61_5) (.ret)
def c61_7 : IR := .seq (.reg q61_2) (.seq (.cond (.t 12) (.skip) (.exit 0)) (.block 1 (.seq (.reg q61_3) (.seq (.reg q61_4) (.cond (.t 19) (c61_6) (.skip))))))
def q61_8 : List Ins := [⟨(some 6),.mov (.c (.int .i64 (-1))),none⟩]
def ir61 : IR := .seq (.reg q61_0) (.seq (.seq (.reg q61_1) (.block 0 (.loop (c61_7)))) (.seq (.reg q61_8) (.ret)))
theorem low61 : tabOf EE 61 = some (.code 21 [.tmp 6] true ir61) := by kernel_rfl
/-! almanac/store.pass$1 -/
def q62_0 : List Ins := [⟨(some 2),.mov (.c (.bool false)),none⟩]
def q62_1 : List Ins := [⟨(some 3),.mov (.t 0),none⟩,
⟨(some 4),.bin .lss (.t 3) (.c (.int .i32 33)),none⟩,
⟨(some 5),.mov (.t 4),none⟩,
⟨(some 6),.mov (.t 0),(some (5,false))⟩,
⟨(some 7),.bin .gtr (.t 6) (.c (.int .i32 126)),(some (5,false))⟩,
⟨(some 8),.pick (.t 5) (.c (.bool true)) (.t 7),none⟩,
⟨(some 9),.mov (.t 8),none⟩,
⟨(some 10),.mov (.t 0),(some (9,false))⟩,
⟨(some 11),.bin .eql (.t 10) (.c (.int .i32 58)),(some (9,false))⟩,
⟨(some 12),.pick (.t 9) (.c (.bool true)) (.t 11),none⟩,
⟨(some 2),.mov (.t 12),none⟩]
def ir62 : IR := .seq (.reg q62_0) (.seq (.reg q62_1) (.ret))
theorem low62 : tabOf EE 62 = some (.code 13 [.tmp 2] false ir62) := by kernel_rfl
/-! internal/stringslite.Index -/
def q101_0 : List Ins := [⟨(some 4),.mov (.c (.int .i64 0)),none⟩]
def q101_1 : List Ins := [⟨(some 14),.mov (.t 1),none⟩,
⟨(some 15),.slen (.t 14),none⟩,
⟨(some 5),.mov (.t 15),none⟩]
def q101_2 : List Ins := [⟨(some 17),.mov (.t 5),none⟩,
⟨(some 18),.bin .eql (.t 17) (.c (.int .i64 0)),none⟩,
⟨(some 19),.mov (.t 18),none⟩,
⟨(some 20),.mov (.t 1),(some (19,false))⟩,
⟨(some 21),.mov (.t 0),(some (19,false))⟩,
⟨(some 22),.bin .eql (.t 20) (.t 21),(some (19,false))⟩,
⟨(some 23),.pick (.t 19) (.c (.bool true)) (.t 22),none⟩,
⟨(some 16),.mov (.t 23),none⟩]
def q101_3 : List Ins := [⟨(some 4),.mov (.c (.int .i64 0)),none⟩]
def c101_4 : IR := .seq (.reg q101_3) (.ret)
def q101_5 : List Ins := [⟨(some 25),.mov (.t 5),none⟩,
⟨(some 26),.bin .eql (.t 25) (.c (.int .i64 1)),none⟩,
⟨(some 24),.mov (.t 26),none⟩]
def q101_6 : List Ins := [⟨(some 27),.mov (.t 0),none⟩,
⟨(some 28),.mov (.t 1),none⟩,
⟨(some 29),.idx .str .one (.t 28) (.c (.int .i64 0)),none⟩,
⟨(some 30),.call 169 [(.t 27),(.t 29)],none⟩,
⟨(some 4),.mov (.t 30),none⟩]
def c101_7 : IR := .seq (.reg q101_6) (.ret)
def q101_8 : List Ins := [⟨(some 32),.mov (.t 5),none⟩,
⟨(some 33),.mov (.t 0),none⟩,
⟨(some 34),.slen (.t 33),none⟩,
⟨(some 35),.bin .geq (.t 32) (.t 34),none⟩,
⟨(some 31),.mov (.t 35),none⟩]
def q101_9 : List Ins := [⟨(some 4),.mov (.c (.int .i64 (-1))),none⟩]
def c101_10 : IR := .seq (.reg q101_9) (.ret)
def q101_11 : List Ins := [⟨(some 45),.mov (.t 0),none⟩,
⟨(some 46),.mov (.t 1),none⟩,
⟨(some 47),.call 170 [(.t 45),(.t 46)],none⟩,
⟨(some 4),.mov (.t 47),none⟩]
def c101_12 : IR := .seq (.reg q101_11) (.ret)
def c101_13 : IR := .seq (.bad) (.cond (.t 36) (c101_12) (.skip))
def c101_14 : IR := .seq (.reg q101_8) (.cond (.t 31) (c101_10) (c101_13))
def c101_15 : IR := .seq (.reg q101_5) (.cond (.t 24) (c101_7) (c101_14))
def q101_16 : List Ins := [⟨(some 48),.mov (.t 1),none⟩,
⟨(some 49),.idx .str .one (.t 48) (.c (.int .i64 0)),none⟩,
⟨(some 6),.mov (.t 49),none⟩]
def q101_17 : List Ins := [⟨(some 50),.mov (.t 1),none⟩,
⟨(some 51),.idx .str .one (.t 50) (.c (.int .i64 1)),none⟩,
⟨(some 7),.mov (.t 51),none⟩]
def q101_18 : List Ins := [⟨(some 8),.mov (.c (.int .i64 0)),none⟩]
def q101_19 : List Ins := [⟨(some 52),.mov (.t 0),none⟩,
⟨(some 53),.slen (.t 52),none⟩,
⟨(some 54),.mov (.t 5),none⟩,
⟨(some 55),.bin .sub (.t 53) (.t 54),none⟩,
⟨(some 56),.bin .add (.t 55) (.c (.int .i64 1)),none⟩,
⟨(some 9),.mov (.t 56),none⟩]
def q101_20 : List Ins := [⟨(some 10),.mov (.c (.int .i64 0)),none⟩]
def q101_21 : List Ins := [⟨(some 57),.mov (.t 8),none⟩,
⟨(some 58),.mov (.t 9),none⟩,
⟨(some 59),.bin .lss (.t 57) (.t 58),none⟩]
def q101_22 : List Ins := [⟨(some 60),.mov (.t 0),none⟩,
⟨(some 61),.mov (.t 8),none⟩,
⟨(some 62),.idx .str .one (.t 60) (.t 61),none⟩,
⟨(some 63),.mov (.t 6),none⟩,
⟨(some 64),.bin .neq (.t 62) (.t 63),none⟩]
def q101_23 : List Ins := [⟨(some 65),.mov (.t 0),none⟩,
⟨(some 66),.mov (.t 8),none⟩,
⟨(some 67),.bin .add (.t 66) (.c (.int .i64 1)),none⟩,
⟨(some 68),.mov (.t 9),none⟩,
⟨(some 69),.slice .str (.t 65) (some (.t 67)) (some (.t 68)) none,none⟩,
⟨(some 70),.mov (.t 6),none⟩,
⟨(some 71),.call 169 [(.t 69),(.t 70)],none⟩,
⟨(some 11),.mov (.t 71),none⟩]
def q101_24 : List Ins := [⟨(some 72),.mov (.t 11),none⟩,
⟨(some 73),.bin .lss (.t 72) (.c (.int .i64 0)),none⟩]
def q101_25 : List Ins := [⟨(some 4),.mov (.c (.int .i64 (-1))),none⟩]
def c101_26 : IR := .seq (.reg q101_25) (.ret)
def q101_27 : List Ins := [⟨(some 74),.mov (.t 8),none⟩,
⟨(some 75),.mov (.t 11),none⟩,
⟨(some 76),.bin .add (.t 75) (.c (.int .i64 1)),none⟩,
⟨(some 77),.bin .add (.t 74) (.t 76),none⟩,
⟨(some 8),.mov (.t 77),none⟩]
def c101_28 : IR := .seq (.reg q101_23) (.seq (.seq (.reg q101_24) (.cond (.t 73) (c101_26) (.skip))) (.reg q101_27))
def q101_29 : List Ins := [⟨(some 78),.mov (.t 0),none⟩,
⟨(some 79),.mov (.t 8),none⟩,
⟨(some 80),.bin .add (.t 79) (.c (.int .i64 1)),none⟩,
⟨(some 81),.idx .str .one (.t 78) (.t 80),none⟩,
⟨(some 82),.mov (.t 7),none⟩,
⟨(some 83),.bin .eql (.t 81) (.t 82),none⟩,
⟨(some 84),.mov (.t 83),none⟩,
⟨(some 85),.mov (.t 0),(some (84,true))⟩,
⟨(some 86),.mov (.t 8),(some (84,true))⟩,
⟨(some 87),.mov (.t 8),(some (84,true))⟩,
⟨(some 88),.mov (.t 5),(some (84,true))⟩,
⟨(some 89),.bin .add (.t 87) (.t 88),(some (84,true))⟩,
⟨(some 90),.slice .str (.t 85) (some (.t 86)) (some (.t 89)) none,(some (84,true))⟩,
⟨(some 91),.mov (.t 1),(some (84,true))⟩,
⟨(some 92),.bin .eql (.t 90) (.t 91),(some (84,true))⟩,
⟨(some 93),.pick (.t 84) (.t 92) (.c (.bool false)),none⟩]
def q101_30 : List Ins := [⟨(some 94),.mov (.t 8),none⟩,
⟨(some 4),.mov (.t 94),none⟩]
def c101_31 : IR := .seq (.reg q101_30) (.ret)
def q101_32 : List Ins := [⟨(some 95),.mov (.t 8),none⟩,
⟨(some 96),.bin .add (.t 95) (.c (.int .i64 1)),none⟩,
⟨(some 8),.mov (.t 96),none⟩]
def q101_33 : List Ins := [⟨(some 97),.mov (.t 10),none⟩,
⟨(some 98),.bin .add (.t 97) (.c (.int .i64 1)),none⟩,
⟨(some 10),.mov (.t 98),none⟩]
def q101_34 : List Ins := [⟨(some 108),.mov (.t 0),none⟩,
⟨(some 109),.mov (.t 8),none⟩,
⟨(some 110),.slice .str (.t 108) (some (.t 109)) none none,none⟩,
⟨(some 111),.mov (.t 1),none⟩,
⟨(some 112),.call 170 [(.t 110),(.t 111)],none⟩,
⟨(some 12),.mov (.t 112),none⟩]
def q101_35 : List Ins := [⟨(some 113),.mov (.t 12),none⟩,
⟨(some 114),.bin .geq (.t 113) (.c (.int .i64 0)),none⟩]
def q101_36 : List Ins := [⟨(some 115),.mov (.t 12),none⟩,
⟨(some 116),.mov (.t 8),none⟩,
⟨(some 117),.bin .add (.t 115) (.t 116),none⟩,
⟨(some 4),.mov (.t 117),none⟩]
def c101_37 : IR := .seq (.reg q101_36) (.ret)
def q101_38 : List Ins := [⟨(some 4),.mov (.c (.int .i64 (-1))),none⟩]
def c101_39 : IR := .seq (.reg q101_34) (.seq (.seq (.reg q101_35) (.cond (.t 114) (c101_37) (.skip))) (.seq (.reg q101_38) (.ret)))
def q101_40 : List Ins := [⟨(some 133),.mov (.t 0),none⟩,
⟨(some 134),.mov (.t 8),none⟩,
⟨(some 135),.slice .str (.t 133) (some (.t 134)) none none,none⟩,
⟨(some 136),.mov (.t 1),none⟩,
⟨(some 137),.call 172 [(.t 135),(.t 136)],none⟩,
⟨(some 13),.mov (.t 137),none⟩]
def q101_41 : List Ins := [⟨(some 138),.mov (.t 13),none⟩,
⟨(some 139),.bin .lss (.t 138) (.c (.int .i64 0)),none⟩]
def q101_42 : List Ins := [⟨(some 4),.mov (.c (.int .i64 (-1))),none⟩]
def c101_43 : IR := .seq (.reg q101_42) (.ret)
def q101_44 : List Ins := [⟨(some 140),.mov (.t 8),none⟩,
⟨(some 141),.mov (.t 13),none⟩,
⟨(some 142),.bin .add (.t 140) (.t 141),none⟩,
⟨(some 4),.mov (.t 142),none⟩]
def c101_45 : IR := .seq (.reg q101_40) (.seq (.seq (.reg q101_41) (.cond (.t 139) (c101_43) (.skip))) (.seq (.reg q101_44) (.ret)))
def c101_46 : IR := .seq (.bad) (.cond (.t 132) (c101_45) (.skip))
def c101_47 : IR := .seq (.seq (.reg q101_21) (.cond (.t 59) (.skip) (.exit 1))) (.block 2 (.seq (.seq (.reg q101_22) (.cond (.t 64) (c101_28) (.skip))) (.seq (.seq (.reg q101_29) (.cond (.t 93) (c101_31) (.skip))) (.seq (.reg q101_32) (.seq (.reg q101_33) (.seq (.bad) (.cond (.t 107) (c101_39) (c101_46))))))))
def q101_48 : List Ins := [⟨(some 4),.mov (.c (.int .i64 (-1))),none⟩]
def ir101 : IR := .seq (.reg q101_0) (.seq (.reg q101_1) (.seq (.block 0 (.seq (.reg q101_2) (.cond (.t 16) (c101_4) (c101_15)))) (.seq (.reg q101_16) (.seq (.reg q101_17) (.seq (.reg q101_18) (.seq (.reg q101_19) (.seq (.reg q101_20) (.seq (.block 1 (.loop (c101_47))) (.seq (.reg q101_48) (.ret))))))))))
theorem low101 : tabOf EE 101 = some (.code 143 [.tmp 4] false ir101) := by kernel_rfl
/-! internal/stringslite.IndexByte -/
def q169_0 : List Ins := [⟨(some 4),.mov (.c (.int .i64 0)),none⟩]
def q169_1 : List Ins := [⟨(some 5),.mov (.t 0),none⟩,
⟨(some 6),.mov (.t 1),none⟩,
⟨(some 7),.call 238 [(.t 5),(.t 6)],none⟩,
⟨(some 4),.mov (.t 7),none⟩]
def ir169 : IR := .seq (.reg q169_0) (.seq (.reg q169_1) (.ret))
theorem low169 : tabOf EE 169 = some (.code 8 [.tmp 4] false ir169) := by kernel_rfl
theorem low100 : tabOf EE 100 = some (.prim .countStr) := by kernel_rfl
theorem low238 : tabOf EE 238 = some (.prim .indexByte) := by kernel_rfl
end Go.Ev.S20
/- How facts about the evaluator are shown: what code does, told of the slots that are known. -/
namespace Go.Ev

/-- Slots that are known. -/
abbrev Sl := List (Nat × V)

def Zeo : Sl → Nat → Option V
  | [], _ => none
  | (e, w) :: r, t => if e = t then some w else Zeo r t

def Zez : Sl → Nat → V → Sl
  | [], d, v => [(d, v)]
  | (e, w) :: r, d, v => if e = d then (d, v) :: r else (e, w) :: Zez r d v

def Zep (σ : Sl) : Option Nat → V → Sl
  | none, _ => σ
  | some d, v => Zez σ d v

def Kn (σ : Sl) (env : List V) : Prop := ∀ t v, Zeo σ t = some v → env[t]? = some v

theorem setS_get (d : Nat) (v : V) (t : Nat) : ∀ σ : Sl, Zeo (Zez σ d v) t = if d = t then some v else Zeo σ t
  | [] => by simp [Zez, Zeo]
  | (e, w) :: r => by
    have ih := setS_get d v t r
    simp only [Zez]
    by_cases h : e = d
    · subst h
      by_cases h2 : e = t
      · subst h2; simp [Zeo]
      · simp [Zeo, h2]
    · rw [if_neg h]
      simp only [Zeo]
      by_cases h2 : e = t
      · subst h2
        rw [if_pos rfl, if_neg (fun h' => h h'.symm)]
        simp
      · rw [if_neg h2, ih]
        by_cases h3 : d = t
        · simp [h3]
        · simp [h3, h2]

/-- Less is known. -/
def Sub (τ σ : Sl) : Prop := ∀ t v, Zeo τ t = some v → Zeo σ t = some v

theorem Kn.sub {τ σ : Sl} {env : List V} (h : Kn σ env) (hs : Sub τ σ) : Kn τ env := fun t v ht => h t v (hs t v ht)

theorem Sub_nil {σ : Sl} : Sub [] σ := fun t v h => by simp [Zeo] at h
theorem Sub_cons {t : Nat} {v : V} {τ σ : Sl} (h : Zeo σ t = some v) (k : Sub τ σ) : Sub ((t, v) :: τ) σ := fun t' v' h' => by
  simp only [Zeo] at h'
  split at h'
  · rename_i e; subst e; cases h'; exact h
  · exact k t' v' h'

def subB (same : V → V → Bool) : Sl → Sl → Bool
  | [], _ => true
  | (t, v) :: r, σ => (match Zeo σ t with | some w => same v w | none => false) && subB same r σ

def dropS (l : List Nat) : Sl → Sl
  | [] => []
  | (t, v) :: r => if t ∈ l then dropS l r else (t, v) :: dropS l r

def keepS (l : List Nat) (σ : Sl) : Sl := l.filterMap fun t => (Zeo σ t).map fun v => (t, v)

theorem keepS_sub (σ : Sl) : ∀ l, Sub (keepS l σ) σ
  | [], t, v, h => by simp [keepS, Zeo] at h
  | a :: l, t, v, h => by
    have ih := keepS_sub σ l t v
    simp only [keepS, List.filterMap_cons] at h ih
    cases hg : Zeo σ a with
    | none => rw [hg] at h; exact ih h
    | some w =>
      rw [hg] at h
      simp only [Option.map_some, Zeo] at h
      split at h
      · rename_i e; subst e; cases h; exact hg
      · exact ih h

def evS (σ : Sl) : Rd → Option V
  | .t n => Zeo σ n
  | .c v => some v

theorem evS_ev {σ : Sl} {env : List V} (h : Kn σ env) {x : Rd} {v : V} (hx : evS σ x = some v) : x.ev env = v := by
  cases x with
  | t n => show env.getD n undefV = v; rw [List.getD_eq_getElem?_getD, h n v hx]; rfl
  | c w => cases hx; rfl

theorem Kn.put {σ : Sl} {env : List V} (h : Kn σ env) {d : Option Nat} {v : V} (hd : ∀ t, d = some t → t < env.length) : Kn (Zep σ d v) (put env d v) := by
  cases d with
  | none => exact h
  | some d =>
    intro t w ht
    simp only [Zep] at ht
    rw [setS_get] at ht
    have := put_get env (some d) v t
    rw [this]
    by_cases e : d = t
    · subst e
      rw [if_pos rfl] at ht
      cases ht
      rw [if_pos rfl, if_pos (hd d rfl)]
    · rw [if_neg e] at ht
      rw [if_neg (by simpa using e)]
      exact h t w ht

section
variable (T : Tab) (bar : Nat) (rd : Option Nat) (nt : Nat)

/-- A call ends so. -/
def Runs (c : Callee) (args : List V) (H : Heap) (bar : Nat) (Q : CR → Heap → Prop) : Prop := ∃ n r h, (∀ m, n ≤ m → callN T m c args H bar = some (r, h)) ∧ Q r h

/-- Code ends so, whatever lies in the slots that are not known. -/
def WC (c : IR) (σ : Sl) (H : Heap) (Q : Out → Sl → Heap → Prop) : Prop := ∀ env : List V, env.length = nt → Kn σ env →
  ∃ n o e h σ', (∀ m k, n ≤ m → n ≤ k → exec (callN T m) k bar rd c env H = some (o, e, h)) ∧ e.length = nt ∧ Kn σ' e ∧ Q o σ' h

/-- A list of operations ends so. -/
def WR (l : List Ins) (σ : Sl) (H : Heap) (Q : Out → Sl → Heap → Prop) : Prop := ∀ env : List V, env.length = nt → Kn σ env →
  ∃ n o e h σ', (∀ m, n ≤ m → regV (callN T m) bar l env H = some (o, e, h)) ∧ e.length = nt ∧ Kn σ' e ∧ Q o σ' h

/-- An operation hands back so. -/
def WO (op : Iop) (σ : Sl) (H : Heap) (K : V → Heap → Prop) : Prop := ∀ env : List V, Kn σ env →
  ∃ n v h, (∀ m, n ≤ m → insV (callN T m) bar env H op = some (.ok v, h)) ∧ K v h
end

variable {T : Tab} {bar : Nat} {rd : Option Nat} {nt : Nat} {σ τ : Sl} {H : Heap} {Q : Out → Sl → Heap → Prop} {K : V → Heap → Prop}

theorem Runs.mono {c : Callee} {args : List V} {Q Q' : CR → Heap → Prop} (h : Runs T c args H bar Q) (hq : ∀ r h, Q r h → Q' r h) : Runs T c args H bar Q' :=
  let ⟨n, r, k, h1, h2⟩ := h; ⟨n, r, k, h1, hq _ _ h2⟩

theorem WC.mono {c : IR} {Q' : Out → Sl → Heap → Prop} (h : WC T bar rd nt c σ H Q) (hq : ∀ o σ h, Q o σ h → Q' o σ h) : WC T bar rd nt c σ H Q' :=
  fun env h1 h2 => let ⟨n, o, e, k, s, a, b, c, d⟩ := h env h1 h2; ⟨n, o, e, k, s, a, b, c, hq _ _ _ d⟩

theorem WC.less {c : IR} (hs : Sub τ σ) (h : WC T bar rd nt c τ H Q) : WC T bar rd nt c σ H Q := fun env h1 h2 => h env h1 (h2.sub hs)

/-- Only the slots of a list are known on. -/
theorem WC.keep {c : IR} (l : List Nat) (h : WC T bar rd nt c (keepS l σ) H Q) : WC T bar rd nt c σ H Q := h.less (keepS_sub σ l)

/-! ### code -/
theorem Zbg (h : Q .norm σ H) : WC T bar rd nt .skip σ H Q := fun env h1 h2 => ⟨0, _, env, H, σ, fun _ _ _ _ => rfl, h1, h2, h⟩
theorem WC_ret (h : Q .ret σ H) : WC T bar rd nt .ret σ H Q := fun env h1 h2 => ⟨0, _, env, H, σ, fun _ _ _ _ => rfl, h1, h2, h⟩
theorem WC_exit {id : Nat} (h : Q (.exit id) σ H) : WC T bar rd nt (.exit id) σ H Q := fun env h1 h2 => ⟨0, _, env, H, σ, fun _ _ _ _ => rfl, h1, h2, h⟩
theorem WC_scope {b : IR} (h : WC T bar rd nt b σ H Q) : WC T bar rd nt (.scope b) σ H Q := h

/-- What stands behind the first of two. -/
def Zem (T : Tab) (bar : Nat) (rd : Option Nat) (nt : Nat) (b : IR) (Q : Out → Sl → Heap → Prop) : Out → Sl → Heap → Prop
  | .norm, σ, H => WC T bar rd nt b σ H Q
  | o, σ, H => Q o σ H

theorem Zcm {a b : IR} (h : WC T bar rd nt a σ H (Zem T bar rd nt b Q)) : WC T bar rd nt (.seq a b) σ H Q := by
  intro env h1 h2
  obtain ⟨n, o, e, k, s, a1, b1, c1, d1⟩ := h env h1 h2
  cases o with
  | norm =>
    obtain ⟨n2, o2, e2, k2, s2, a2, b2, c2, d2⟩ := d1 e b1 c1
    exact ⟨max n n2, o2, e2, k2, s2, fun m j hm hj => by simp only [exec, a1 m j (by omega) (by omega)]; exact a2 m j (by omega) (by omega), b2, c2, d2⟩
  | ret => exact ⟨n, _, e, k, s, fun m j hm hj => by simp only [exec, a1 m j hm hj], b1, c1, d1⟩
  | exit id => exact ⟨n, _, e, k, s, fun m j hm hj => by simp only [exec, a1 m j hm hj], b1, c1, d1⟩
  | pan v => exact ⟨n, _, e, k, s, fun m j hm hj => by simp only [exec, a1 m j hm hj], b1, c1, d1⟩

/-- Two pieces, with what holds between them. -/
theorem WC_mid {a b : IR} (M : Sl → Heap → Prop) (h : WC T bar rd nt a σ H (fun o σ' H' => match o with | .norm => M σ' H' | o => Q o σ' H')) (hb : ∀ σ' H', M σ' H' → WC T bar rd nt b σ' H' Q) : WC T bar rd nt (.seq a b) σ H Q :=
  Zcm (h.mono fun o σ' H' hq => by cases o <;> first | exact hb _ _ hq | exact hq)

theorem Zbe {c : Rd} {a b : IR} {p : Bool} (hc : evS σ c = some (.bool p)) (ht : p = true → WC T bar rd nt a σ H Q) (hf : p = false → WC T bar rd nt b σ H Q) : WC T bar rd nt (.cond c a b) σ H Q := by
  intro env h1 h2
  have he := evS_ev h2 hc
  cases p with
  | true =>
    obtain ⟨n, o, e, k, s, a1, b1⟩ := ht rfl env h1 h2
    exact ⟨n, o, e, k, s, fun m j hm hj => by simp only [exec, he]; exact a1 m j hm hj, b1⟩
  | false =>
    obtain ⟨n, o, e, k, s, a1, b1⟩ := hf rfl env h1 h2
    exact ⟨n, o, e, k, s, fun m j hm hj => by simp only [exec, he]; exact a1 m j hm hj, b1⟩

def Blk (id : Nat) (Q : Out → Sl → Heap → Prop) : Out → Sl → Heap → Prop
  | .exit id', σ, H => Q (if id' = id then .norm else .exit id') σ H
  | o, σ, H => Q o σ H

theorem WC_block {id : Nat} {b : IR} (h : WC T bar rd nt b σ H (Blk id Q)) : WC T bar rd nt (.block id b) σ H Q := by
  intro env h1 h2
  obtain ⟨n, o, e, k, s, a1, b1, c1, d1⟩ := h env h1 h2
  cases o with
  | exit id' => exact ⟨n, _, e, k, s, fun m j hm hj => by simp only [exec, a1 m j hm hj], b1, c1, d1⟩
  | norm => exact ⟨n, _, e, k, s, fun m j hm hj => by simp only [exec, a1 m j hm hj], b1, c1, d1⟩
  | ret => exact ⟨n, _, e, k, s, fun m j hm hj => by simp only [exec, a1 m j hm hj], b1, c1, d1⟩
  | pan v => exact ⟨n, _, e, k, s, fun m j hm hj => by simp only [exec, a1 m j hm hj], b1, c1, d1⟩

/-- Behind a round. -/
def Zdj (I : Sl → Heap → Prop) (Q : Out → Sl → Heap → Prop) : Out → Sl → Heap → Prop
  | .norm, σ, H => I σ H
  | o, σ, H => Q o σ H

theorem WC_loop {α : Type} (I : α → Sl → Heap → Prop) (μ : α → Nat) {b : IR} (a0 : α) (h0 : I a0 σ H)
    (step : ∀ a σ H, I a σ H → WC T bar rd nt b σ H (Zdj (fun σ' H' => ∃ a', μ a' < μ a ∧ I a' σ' H') Q)) : WC T bar rd nt (.loop b) σ H Q := by
  have key : ∀ (N : Nat) (a : α) (σ : Sl) (H : Heap), μ a < N → I a σ H → ∀ env : List V, env.length = nt → Kn σ env →
      ∃ n o e h σ', (∀ m k j, n ≤ m → n ≤ k → n ≤ j → iter (exec (callN T m) k bar rd b) j env H = some (o, e, h)) ∧ e.length = nt ∧ Kn σ' e ∧ Q o σ' h := by
    intro N
    induction N with
    | zero => intro a σ H h; omega
    | succ N ih =>
      intro a σ H hN hI env h1 h2
      obtain ⟨n, o, e, k, s, a1, b1, c1, d1⟩ := step a σ H hI env h1 h2
      have other : o ≠ .norm → ∃ n o e h σ', (∀ m k j, n ≤ m → n ≤ k → n ≤ j → iter (exec (callN T m) k bar rd b) j env H = some (o, e, h)) ∧ e.length = nt ∧ Kn σ' e ∧ Q o σ' h := by
        intro hne
        refine ⟨n + 1, o, e, k, s, fun m k' j hm hk hj => ?_, b1, c1, by cases o <;> first | exact absurd rfl hne | exact d1⟩
        obtain ⟨j, rfl⟩ : ∃ i, j = i + 1 := ⟨j - 1, by omega⟩
        simp only [iter, a1 m k' (by omega) (by omega)]
        cases o <;> first | exact absurd rfl hne | rfl
      cases o with
      | norm =>
        obtain ⟨a', ha', hI'⟩ := d1
        obtain ⟨n2, o2, e2, k2, s2, a2, b2, c2, d2⟩ := ih a' s k (by omega) hI' e b1 c1
        refine ⟨max n n2 + 1, o2, e2, k2, s2, fun m k' j hm hk hj => ?_, b2, c2, d2⟩
        obtain ⟨j, rfl⟩ : ∃ i, j = i + 1 := ⟨j - 1, by omega⟩
        simp only [iter, a1 m k' (by omega) (by omega)]
        exact a2 m k' j (by omega) (by omega) (by omega)
      | ret => exact other (by simp)
      | exit id => exact other (by simp)
      | pan v => exact other (by simp)
  intro env h1 h2
  obtain ⟨n, o, e, k, s, a1, b1⟩ := key (μ a0 + 1) a0 σ H (by omega) h0 env h1 h2
  exact ⟨n, o, e, k, s, fun m k' hm hk => a1 m k' k' hm hk hk, b1⟩

/-! ### operations -/
theorem WC_reg {l : List Ins} (h : WR T bar nt l σ H Q) : WC T bar rd nt (.reg l) σ H Q := fun env h1 h2 =>
  let ⟨n, o, e, k, s, a, b⟩ := h env h1 h2; ⟨n, o, e, k, s, fun m _ hm _ => a m hm, b⟩

theorem WR_nil (h : Q .norm σ H) : WR T bar nt [] σ H Q := fun env h1 h2 => ⟨0, _, env, H, σ, fun _ _ => rfl, h1, h2, h⟩

def dstOk (nt : Nat) : Option Nat → Bool
  | none => true
  | some d => decide (d < nt)

theorem dstOk_lt {d : Option Nat} (h : dstOk nt d = true) {env : List V} (hl : env.length = nt) : ∀ t, d = some t → t < env.length := by
  intro t e; subst e; rw [hl]; simpa [dstOk] using h

theorem WR_cons {d : Option Nat} {op : Iop} {r : List Ins} (hd : dstOk nt d = true) (h : WO T bar op σ H fun v H' => WR T bar nt r (Zep σ d v) H' Q) : WR T bar nt (⟨d, op, none⟩ :: r) σ H Q := by
  intro env h1 h2
  obtain ⟨n, v, k, a, b⟩ := h env h2
  obtain ⟨n2, o2, e2, k2, s2, a2, b2⟩ := b (put env d v) (by rw [put_len]; exact h1) (h2.put (dstOk_lt hd h1))
  refine ⟨max n n2, o2, e2, k2, s2, fun m hm => ?_, b2⟩
  simp only [regV, wanted, if_true, a m (by omega)]
  exact a2 m (by omega)

/-- An operation that is carried out only where a slot holds so. -/
theorem WR_guard {d : Option Nat} {op : Iop} {g : Nat} {w p : Bool} {r : List Ins} (hg : Zeo σ g = some (.bool p)) (hd : dstOk nt d = true) (ht : p = w → WO T bar op σ H fun v H' => WR T bar nt r (Zep σ d v) H' Q)
    (hf : p ≠ w → WR T bar nt r (Zep σ d undefV) H Q) : WR T bar nt (⟨d, op, some (g, w)⟩ :: r) σ H Q := by
  intro env h1 h2
  have hw : wanted env (some (g, w)) = (p == w) := by simp only [wanted, h2 g _ hg]
  by_cases e : p = w
  · obtain ⟨n, v, k, a, b⟩ := ht e env h2
    obtain ⟨n2, o2, e2, k2, s2, a2, b2⟩ := b (put env d v) (by rw [put_len]; exact h1) (h2.put (dstOk_lt hd h1))
    refine ⟨max n n2, o2, e2, k2, s2, fun m hm => ?_, b2⟩
    simp only [regV, hw, e, beq_self_eq_true, if_true, a m (by omega)]
    exact a2 m (by omega)
  · obtain ⟨n2, o2, e2, k2, s2, a2, b2⟩ := hf e (put env d undefV) (by rw [put_len]; exact h1) (h2.put (dstOk_lt hd h1))
    refine ⟨n2, o2, e2, k2, s2, fun m hm => ?_, b2⟩
    have : (p == w) = false := by simpa using e
    simp only [regV, hw, this, Bool.false_eq_true, if_false]
    exact a2 m hm

/-- … where the slot's operation was left out itself. -/
theorem WR_skip {d : Option Nat} {op : Iop} {g : Nat} {w : Bool} {r : List Ins} (hg : Zeo σ g = some undefV) (hd : dstOk nt d = true)
    (hf : WR T bar nt r (Zep σ d undefV) H Q) : WR T bar nt (⟨d, op, some (g, w)⟩ :: r) σ H Q := by
  intro env h1 h2
  have hw : wanted env (some (g, w)) = false := by simp only [wanted, h2 g _ hg, undefV]
  obtain ⟨n2, o2, e2, k2, s2, a2, b2⟩ := hf (put env d undefV) (by rw [put_len]; exact h1) (h2.put (dstOk_lt hd h1))
  refine ⟨n2, o2, e2, k2, s2, fun m hm => ?_, b2⟩
  simp only [regV, hw, Bool.false_eq_true, if_false]
  exact a2 m hm

/-- An operation that calls nothing, its operands known. -/
theorem WO_op {op : Iop} (h : ∀ env, Kn σ env → ∃ v H', opV bar env H op = some (v, H') ∧ K v H') (hc : ∀ (C : Caller) env, insV C bar env H op = (opV bar env H op).map fun (v, H') => (.ok v, H')) : WO T bar op σ H K := by
  intro env h2
  obtain ⟨v, H', h3, h4⟩ := h env h2
  exact ⟨0, v, H', fun m _ => by rw [hc, h3]; rfl, h4⟩

/-! ### operations on numbers and texts -/
theorem Zbi {k : IntKind} {a b : Int} : binV .add (.int k a) (.int k b) = some (.int k (k.wrap (a + b))) := by simp [binV, intBin]
theorem Zbs {k : IntKind} {a b : Int} : binV .sub (.int k a) (.int k b) = some (.int k (k.wrap (a - b))) := by simp [binV, intBin]
theorem Zbo {k : IntKind} {a b : Int} : binV .mul (.int k a) (.int k b) = some (.int k (k.wrap (a * b))) := by simp [binV, intBin]
theorem Zbq {k : IntKind} {a b : Int} : binV .quo (.int k a) (.int k b) = if b = 0 then none else some (.int k (k.wrap (a.tdiv b))) := by simp [binV, intBin]
theorem Zbr {k : IntKind} {a b : Int} : binV .rem (.int k a) (.int k b) = if b = 0 then none else some (.int k (a.tmod b)) := by simp [binV, intBin]
theorem Zbj {k : IntKind} {a b : Int} : binV .eql (.int k a) (.int k b) = some (.bool (a == b)) := by simp [binV, intBin]
theorem Zbp {k : IntKind} {a b : Int} : binV .neq (.int k a) (.int k b) = some (.bool (a != b)) := by simp [binV, intBin]
theorem Zbn {k : IntKind} {a b : Int} : binV .lss (.int k a) (.int k b) = some (.bool (decide (a < b))) := by simp [binV, intBin]
theorem Zbm {k : IntKind} {a b : Int} : binV .leq (.int k a) (.int k b) = some (.bool (decide (a ≤ b))) := by simp [binV, intBin]
theorem Zbl {k : IntKind} {a b : Int} : binV .gtr (.int k a) (.int k b) = some (.bool (decide (a > b))) := by simp [binV, intBin]
theorem Zbk {k : IntKind} {a b : Int} : binV .geq (.int k a) (.int k b) = some (.bool (decide (a ≥ b))) := by simp [binV, intBin]
theorem Zam {a b : List UInt8} : binV .eql (.str a) (.str b) = some (.bool (a == b)) := by simp [binV, strBin]
theorem Zar {a b : List UInt8} : binV .neq (.str a) (.str b) = some (.bool (!(a == b))) := by simp [binV, strBin]
theorem Zaq {a b : List UInt8} : binV .lss (.str a) (.str b) = some (.bool (bytesLess a b)) := by simp [binV, strBin]
theorem Zap {a b : List UInt8} : binV .leq (.str a) (.str b) = some (.bool (bytesLess a b || a == b)) := by simp [binV, strBin]
theorem Zao {a b : List UInt8} : binV .gtr (.str a) (.str b) = some (.bool (!(bytesLess a b || a == b))) := by simp [binV, strBin]
theorem Zan {a b : List UInt8} : binV .geq (.str a) (.str b) = some (.bool (!(bytesLess a b))) := by simp [binV, strBin]
theorem Zal {a b : List UInt8} : binV .add (.str a) (.str b) = if a.length + b.length ≤ 9223372036854775807 then some (.str (a ++ b)) else none := by simp [binV, strBin]
theorem bin_shl {k k' : IntKind} {a b : Int} : binV .shl (.int k a) (.int k' b) = if b < 0 then none else some (.int k (k.wrap (a * 2 ^ (min b.toNat k.bits)))) := rfl
theorem bin_shr {k k' : IntKind} {a b : Int} : binV .shr (.int k a) (.int k' b) = if b < 0 then none else some (.int k (a.fdiv (2 ^ (min b.toNat k.bits)))) := rfl

/-! ### operations, told by their operands -/
/-- What is there has the property. -/
def w1 {α : Type} (x : Option α) (f : α → Prop) : Prop := match x with
  | some v => f v
  | none => False

theorem Zcj {α : Type} {v : α} {f : α → Prop} : w1 (some v) f = f v := rfl
theorem Zci {α : Type} {f : α → Prop} : w1 none f = False := rfl
theorem Zdc {α : Type} {c : Prop} [Decidable c] {x : Option α} {f : α → Prop} : w1 (if c then x else none) f = (c ∧ w1 x f) := by
  by_cases h : c <;> simp [h, w1]
theorem Zch {α : Type} {c : Prop} [Decidable c] {x : Option α} {f : α → Prop} : w1 (if c then none else x) f = (¬ c ∧ w1 x f) := by
  by_cases h : c <;> simp [h, w1]
theorem Zdd {α β : Type} {x : Option α} {g : α → β} {f : β → Prop} : w1 (x.map g) f = w1 x (fun a => f (g a)) := by cases x <;> rfl
theorem Zcg {α β : Type} {x : Option α} {g : α → Option β} {f : β → Prop} : w1 (x.bind g) f = w1 x (fun a => w1 (g a) f) := by cases x <;> rfl
theorem w1_iff {α : Type} {x : Option α} {f : α → Prop} : w1 x f ↔ ∃ v, x = some v ∧ f v := by cases x <;> simp [w1]

def Zfe (σ : Sl) (x : Rd) : Option Rd := (evS σ x).map .c
def Zfb (σ : Sl) : List Rd → Option (List Rd)
  | [] => some []
  | x :: r => (Zfe σ x).bind fun x => (Zfb σ r).map (x :: ·)
def Zfc (σ : Sl) : Option Rd → Option (Option Rd)
  | none => some none
  | some x => (Zfe σ x).map some
def Zfd (σ : Sl) : List (Nat × Nat × Rd) → Option (List (Nat × Nat × Rd))
  | [] => some []
  | (o, n, x) :: r => (Zfe σ x).bind fun x => (Zfd σ r).map ((o, n, x) :: ·)

/-- An operation, its operands put in. -/
def Zfa (σ : Sl) : Iop → Option Iop
  | .mov x => (Zfe σ x).map .mov
  | .pick c a b => (Zfe σ c).bind fun c => (Zfe σ a).bind fun a => (Zfe σ b).map fun b => .pick c a b
  | .alloc t cells => some (.alloc t cells)
  | .box t x => (Zfe σ x).map (.box t)
  | .build z ps => (Zfd σ ps).map (.build z)
  | .mkslice t es n z ps => (Zfd σ ps).map (.mkslice t es n z)
  | .load k a => (Zfe σ a).map (.load k)
  | .store n a x => (Zfe σ a).bind fun a => (Zfe σ x).map fun x => .store n a x
  | .nilck x => (Zfe σ x).map .nilck
  | .bin o x y => (Zfe σ x).bind fun x => (Zfe σ y).map fun y => .bin o x y
  | .eqs ks n x y => (Zfe σ x).bind fun x => (Zfe σ y).map fun y => .eqs ks n x y
  | .eqx k n x y => (Zfe σ x).bind fun x => (Zfe σ y).map fun y => .eqx k n x y
  | .eqp n x y => (Zfe σ x).bind fun x => (Zfe σ y).map fun y => .eqp n x y
  | .un o x => (Zfe σ x).map (.un o)
  | .conv k x => (Zfe σ x).map (.conv k)
  | .iface t x => (Zfe σ x).map (.iface t)
  | .mkfn f a c => (Zfb σ a).bind fun a => (Zfb σ c).map fun c => .mkfn f a c
  | .mkmap => some .mkmap
  | .makesl t es b z l c => (Zfe σ l).bind fun l => (Zfe σ c).map fun c => .makesl t es b z l c
  | .slice k x l h m => (Zfe σ x).bind fun x => (Zfc σ l).bind fun l => (Zfc σ h).bind fun h => (Zfc σ m).map fun m => .slice k x l h m
  | .slicea n es x l h m => (Zfe σ x).bind fun x => (Zfc σ l).bind fun l => (Zfc σ h).bind fun h => (Zfc σ m).map fun m => .slicea n es x l h m
  | .off n x => (Zfe σ x).map (.off n)
  | .fld o k x => (Zfe σ x).map (.fld o k)
  | .ixaddr k x i => (Zfe σ x).bind fun x => (Zfe σ i).map fun i => .ixaddr k x i
  | .idx k l x i => (Zfe σ x).bind fun x => (Zfe σ i).map fun i => .idx k l x i
  | .look kk z x i ok => (Zfe σ x).bind fun x => (Zfe σ i).map fun i => .look kk z x i ok
  | .mapup kk m k v => (Zfe σ m).bind fun m => (Zfe σ k).bind fun k => (Zfe σ v).map fun v => .mapup kk m k v
  | .range x => (Zfe σ x).map .range
  | .next x => (Zfe σ x).map .next
  | .assert t z x ok => (Zfe σ x).map fun x => .assert t z x ok
  | .ext x i => (Zfe σ x).map fun x => .ext x i
  | .len x => (Zfe σ x).map .len
  | .slen x => (Zfe σ x).map .slen
  | .mlen x => (Zfe σ x).map .mlen
  | .cap x => (Zfe σ x).map .cap
  | .append t es b s x => (Zfe σ s).bind fun s => (Zfe σ x).map fun x => .append t es b s x
  | .appendz t es b z s x => (Zfe σ s).bind fun s => (Zfe σ x).map fun x => .appendz t es b z s x
  | .copy es d s => (Zfe σ d).bind fun d => (Zfe σ s).map fun s => .copy es d s
  | .clear es z x => (Zfe σ x).map (.clear es z)
  | .min xs => (Zfb σ xs).map .min
  | .max xs => (Zfb σ xs).map .max
  | .sdata x => (Zfe σ x).map .sdata
  | .ustr t a n => (Zfe σ a).bind fun a => (Zfe σ n).map fun n => .ustr t a n
  | .del kk m k => (Zfe σ m).bind fun m => (Zfe σ k).map fun k => .del kk m k
  | .call f xs => (Zfb σ xs).map (.call f)
  | .callv x xs => (Zfe σ x).bind fun x => (Zfb σ xs).map fun xs => .callv x xs
  | .panic x => (Zfe σ x).map .panic
  | .bad => none

theorem subR_ev {env : List V} (h : Kn σ env) {x y : Rd} (hx : Zfe σ x = some y) : x.ev env = y.ev [] := by
  unfold Zfe at hx
  obtain ⟨v, h1, rfl⟩ := Option.map_eq_some_iff.1 hx
  exact evS_ev h h1

theorem subL_ev {env : List V} (h : Kn σ env) : ∀ {l r : List Rd}, Zfb σ l = some r → l.map (·.ev env) = r.map (·.ev [])
  | [], r, hx => by cases hx; rfl
  | x :: l, r, hx => by
    simp only [Zfb, Option.bind_eq_some_iff, Option.map_eq_some_iff] at hx
    obtain ⟨y, h1, r', h2, rfl⟩ := hx
    simp only [List.map_cons, subR_ev h h1, subL_ev h h2]

theorem subO_ev {env : List V} (h : Kn σ env) {x y : Option Rd} (hx : Zfc σ x = some y) : x.map (·.ev env) = y.map (·.ev []) := by
  cases x with
  | none => cases hx; rfl
  | some x =>
    obtain ⟨z, h1, rfl⟩ := Option.map_eq_some_iff.1 hx
    simp only [Option.map_some, subR_ev h h1]

theorem subP_ev {env : List V} (h : Kn σ env) : ∀ {l r : List (Nat × Nat × Rd)}, Zfd σ l = some r → Zbu env l = Zbu [] r
  | [], r, hx => by cases hx; rfl
  | (o, n, x) :: l, r, hx => by
    simp only [Zfd, Option.bind_eq_some_iff, Option.map_eq_some_iff] at hx
    obtain ⟨y, h1, r', h2, rfl⟩ := hx
    have := subP_ev h h2
    unfold Zbu at this ⊢
    simp only [List.map_cons, subR_ev h h1, this]

theorem subI_ev {env : List V} (h : Kn σ env) {op op' : Iop} (hx : Zfa σ op = some op') (C : Caller) (bar : Nat) (H : Heap) : insV C bar env H op = insV C bar [] H op' := by
  cases op <;> simp only [Zfa, Option.bind_eq_some_iff, Option.map_eq_some_iff, Option.some.injEq, reduceCtorEq] at hx
  case mov x => obtain ⟨y, h1, rfl⟩ := hx; simp only [insV, opV, subR_ev h h1]
  case pick c a b => obtain ⟨c', h1, a', h2, b', h3, rfl⟩ := hx; simp only [insV, opV, subR_ev h h1, subR_ev h h2, subR_ev h h3]
  case alloc t cells => subst hx; rfl
  case box t x => obtain ⟨y, h1, rfl⟩ := hx; simp only [insV, opV, subR_ev h h1]
  case build z ps => obtain ⟨y, h1, rfl⟩ := hx; simp only [insV, opV, subP_ev h h1]
  case mkslice t es n z ps => obtain ⟨y, h1, rfl⟩ := hx; simp only [insV, opV, subP_ev h h1]
  case load k a => obtain ⟨y, h1, rfl⟩ := hx; simp only [insV, opV, subR_ev h h1]
  case store n a x => obtain ⟨y, h1, z, h2, rfl⟩ := hx; simp only [insV, opV, subR_ev h h1, subR_ev h h2]
  case nilck x => obtain ⟨y, h1, rfl⟩ := hx; simp only [insV, opV, subR_ev h h1]
  case bin o a x => obtain ⟨y, h1, z, h2, rfl⟩ := hx; simp only [insV, opV, subR_ev h h1, subR_ev h h2]
  case eqs k o a x => obtain ⟨y, h1, z, h2, rfl⟩ := hx; simp only [insV, opV, subR_ev h h1, subR_ev h h2]
  case eqx k o a x => obtain ⟨y, h1, z, h2, rfl⟩ := hx; simp only [insV, opV, subR_ev h h1, subR_ev h h2]
  case eqp o a x => obtain ⟨y, h1, z, h2, rfl⟩ := hx; simp only [insV, opV, subR_ev h h1, subR_ev h h2]
  case un o x => obtain ⟨y, h1, rfl⟩ := hx; simp only [insV, opV, subR_ev h h1]
  case conv o x => obtain ⟨y, h1, rfl⟩ := hx; simp only [insV, opV, subR_ev h h1]
  case iface o x => obtain ⟨y, h1, rfl⟩ := hx; simp only [insV, opV, subR_ev h h1]
  case mkfn f a c => obtain ⟨y, h1, z, h2, rfl⟩ := hx; simp only [insV, opV, subL_ev h h1, subL_ev h h2]
  case mkmap => subst hx; rfl
  case makesl t es b z l c => obtain ⟨y, h1, z, h2, rfl⟩ := hx; simp only [insV, opV, subR_ev h h1, subR_ev h h2]
  case slice k x l hh m => obtain ⟨x', h1, l', h2, hh', h3, m', h4, rfl⟩ := hx; simp only [insV, opV, subR_ev h h1, subO_ev h h2, subO_ev h h3, subO_ev h h4]
  case slicea n es x l hh m => obtain ⟨x', h1, l', h2, hh', h3, m', h4, rfl⟩ := hx; simp only [insV, opV, subR_ev h h1, subO_ev h h2, subO_ev h h3, subO_ev h h4]
  case off n x => obtain ⟨y, h1, rfl⟩ := hx; simp only [insV, opV, subR_ev h h1]
  case fld n k x => obtain ⟨y, h1, rfl⟩ := hx; simp only [insV, opV, subR_ev h h1]
  case ixaddr k a x => obtain ⟨y, h1, z, h2, rfl⟩ := hx; simp only [insV, opV, subR_ev h h1, subR_ev h h2]
  case idx k l a x => obtain ⟨y, h1, z, h2, rfl⟩ := hx; simp only [insV, opV, subR_ev h h1, subR_ev h h2]
  case look kk z x i ok => obtain ⟨y, h1, z, h2, rfl⟩ := hx; simp only [insV, opV, subR_ev h h1, subR_ev h h2]
  case mapup kk a b c => obtain ⟨x', h1, y', h2, z', h3, rfl⟩ := hx; simp only [insV, opV, subR_ev h h1, subR_ev h h2, subR_ev h h3]
  case range x => obtain ⟨y, h1, rfl⟩ := hx; simp only [insV, opV, subR_ev h h1]
  case next x => obtain ⟨y, h1, rfl⟩ := hx; simp only [insV, opV, subR_ev h h1]
  case assert t z x ok => obtain ⟨y, h1, rfl⟩ := hx; simp only [insV, opV, subR_ev h h1]
  case ext x i => obtain ⟨y, h1, rfl⟩ := hx; simp only [insV, opV, subR_ev h h1]
  case len x => obtain ⟨y, h1, rfl⟩ := hx; simp only [insV, opV, subR_ev h h1]
  case slen x => obtain ⟨y, h1, rfl⟩ := hx; simp only [insV, opV, subR_ev h h1]
  case mlen x => obtain ⟨y, h1, rfl⟩ := hx; simp only [insV, opV, subR_ev h h1]
  case cap x => obtain ⟨y, h1, rfl⟩ := hx; simp only [insV, opV, subR_ev h h1]
  case append t es b a x => obtain ⟨y, h1, z, h2, rfl⟩ := hx; simp only [insV, opV, subR_ev h h1, subR_ev h h2]
  case appendz t es b z a x => obtain ⟨y, h1, z, h2, rfl⟩ := hx; simp only [insV, opV, subR_ev h h1, subR_ev h h2]
  case copy es a x => obtain ⟨y, h1, z, h2, rfl⟩ := hx; simp only [insV, opV, subR_ev h h1, subR_ev h h2]
  case clear es z x => obtain ⟨y, h1, rfl⟩ := hx; simp only [insV, opV, subR_ev h h1]
  case min xs => obtain ⟨y, h1, rfl⟩ := hx; simp only [insV, opV, subL_ev h h1]
  case max xs => obtain ⟨y, h1, rfl⟩ := hx; simp only [insV, opV, subL_ev h h1]
  case sdata x => obtain ⟨y, h1, rfl⟩ := hx; simp only [insV, opV, subR_ev h h1]
  case ustr t a x => obtain ⟨y, h1, z, h2, rfl⟩ := hx; simp only [insV, opV, subR_ev h h1, subR_ev h h2]
  case del kk a x => obtain ⟨y, h1, z, h2, rfl⟩ := hx; simp only [insV, opV, subR_ev h h1, subR_ev h h2]
  case call f xs => obtain ⟨y, h1, rfl⟩ := hx; simp only [insV, subL_ev h h1]
  case callv x xs => obtain ⟨y, h1, z, h2, rfl⟩ := hx; simp only [insV, subR_ev h h1, subL_ev h h2]
  case panic x => obtain ⟨y, h1, rfl⟩ := hx; simp only [insV, subR_ev h h1]

/-- A call hands back so. -/
def RunsV (T : Tab) (c : Callee) (args : List V) (H : Heap) (bar : Nat) (K : V → Heap → Prop) : Prop := Runs T c args H bar fun r h => ∃ v, r = .ok v ∧ K v h

def pickW (c a b : V) (K : V → Prop) : Prop := match c with
  | .bool p => match a, b with
    | .bool a, .bool b => K (.bool (bif p then a else b))
    | a, b => (p = true → K a) ∧ (p = false → K b)
  | _ => False

theorem Zae {p a b : Bool} {K : V → Prop} : pickW (.bool p) (.bool a) (.bool b) K = K (.bool (bif p then a else b)) := rfl
theorem pickW_l {p : Bool} {a : V} {K : V → Prop} : pickW (.bool p) a undefV K = ((p = true → K a) ∧ (p = false → K undefV)) := by
  cases a <;> rfl
theorem pickW_r {p : Bool} {b : V} {K : V → Prop} : pickW (.bool p) undefV b K = ((p = true → K undefV) ∧ (p = false → K b)) := by
  cases b <;> rfl
theorem pickW_str {p : Bool} {a b : List UInt8} {K : V → Prop} : pickW (.bool p) (.str a) (.str b) K = ((p = true → K (.str a)) ∧ (p = false → K (.str b))) := rfl
theorem pickW_int {p : Bool} {k k' : IntKind} {a b : Int} {K : V → Prop} : pickW (.bool p) (.int k a) (.int k' b) K = ((p = true → K (.int k a)) ∧ (p = false → K (.int k' b))) := rfl

theorem pickW_ok {c a b : V} {K : V → Prop} (h : pickW c a b K) : ∃ p v, c = .bool p ∧ v = (if p = true then a else b) ∧ K v := by
  unfold pickW at h
  split at h
  · rename_i p
    split at h
    · rename_i x y
      exact ⟨p, _, rfl, by cases p <;> rfl, h⟩
    · cases p with
      | true => exact ⟨true, _, rfl, rfl, h.1 rfl⟩
      | false => exact ⟨false, _, rfl, rfl, h.2 rfl⟩
  · exact h.elim

/-- An operation, its operands being values. -/
def opW (T : Tab) (bar : Nat) (H : Heap) (K : V → Heap → Prop) : Iop → Prop
  | .mov x => K (x.ev []) H
  | .pick c a b => pickW (c.ev []) (a.ev []) (b.ev []) fun v => K v H
  | .call f xs => RunsV T (.f f) (xs.map (·.ev [])) H bar K
  | .callv x xs => match x.ev [] with
    | .fn (.func f) first cap => RunsV T (.f f) (first ++ xs.map (·.ev []) ++ cap) H bar K
    | .fn (.yield l) [] [] => RunsV T (.yield l) (xs.map (·.ev [])) H bar K
    | _ => False
  | .panic _ => False
  | .bad => False
  | .alloc t cs => w1 (opV bar [] H (.alloc t cs)) fun p => K p.1 p.2
  | .box t x => w1 (opV bar [] H (.box t x)) fun p => K p.1 p.2
  | .build z ps => w1 (opV bar [] H (.build z ps)) fun p => K p.1 p.2
  | .mkslice t es n z ps => w1 (opV bar [] H (.mkslice t es n z ps)) fun p => K p.1 p.2
  | .load k a => w1 (opV bar [] H (.load k a)) fun p => K p.1 p.2
  | .store n a x => w1 (opV bar [] H (.store n a x)) fun p => K p.1 p.2
  | .nilck x => w1 (opV bar [] H (.nilck x)) fun p => K p.1 p.2
  | .bin o x y => w1 (opV bar [] H (.bin o x y)) fun p => K p.1 p.2
  | .eqs ks n x y => w1 (opV bar [] H (.eqs ks n x y)) fun p => K p.1 p.2
  | .eqx k n x y => w1 (opV bar [] H (.eqx k n x y)) fun p => K p.1 p.2
  | .eqp n x y => w1 (opV bar [] H (.eqp n x y)) fun p => K p.1 p.2
  | .un o x => w1 (opV bar [] H (.un o x)) fun p => K p.1 p.2
  | .conv k x => w1 (opV bar [] H (.conv k x)) fun p => K p.1 p.2
  | .iface t x => w1 (opV bar [] H (.iface t x)) fun p => K p.1 p.2
  | .mkfn f a c => w1 (opV bar [] H (.mkfn f a c)) fun p => K p.1 p.2
  | .mkmap  => w1 (opV bar [] H (.mkmap )) fun p => K p.1 p.2
  | .makesl t es b z l c => w1 (opV bar [] H (.makesl t es b z l c)) fun p => K p.1 p.2
  | .slice k x l h m => w1 (opV bar [] H (.slice k x l h m)) fun p => K p.1 p.2
  | .slicea n es x l h m => w1 (opV bar [] H (.slicea n es x l h m)) fun p => K p.1 p.2
  | .off n x => w1 (opV bar [] H (.off n x)) fun p => K p.1 p.2
  | .fld o k x => w1 (opV bar [] H (.fld o k x)) fun p => K p.1 p.2
  | .ixaddr k x i => w1 (opV bar [] H (.ixaddr k x i)) fun p => K p.1 p.2
  | .idx k l x i => w1 (opV bar [] H (.idx k l x i)) fun p => K p.1 p.2
  | .look kk z x i ok => w1 (opV bar [] H (.look kk z x i ok)) fun p => K p.1 p.2
  | .mapup kk m k v => w1 (opV bar [] H (.mapup kk m k v)) fun p => K p.1 p.2
  | .range x => w1 (opV bar [] H (.range x)) fun p => K p.1 p.2
  | .next x => w1 (opV bar [] H (.next x)) fun p => K p.1 p.2
  | .assert t z x ok => w1 (opV bar [] H (.assert t z x ok)) fun p => K p.1 p.2
  | .ext x i => w1 (opV bar [] H (.ext x i)) fun p => K p.1 p.2
  | .len x => w1 (opV bar [] H (.len x)) fun p => K p.1 p.2
  | .slen x => w1 (opV bar [] H (.slen x)) fun p => K p.1 p.2
  | .mlen x => w1 (opV bar [] H (.mlen x)) fun p => K p.1 p.2
  | .cap x => w1 (opV bar [] H (.cap x)) fun p => K p.1 p.2
  | .append t es b s x => w1 (opV bar [] H (.append t es b s x)) fun p => K p.1 p.2
  | .appendz t es b z s x => w1 (opV bar [] H (.appendz t es b z s x)) fun p => K p.1 p.2
  | .copy es d s => w1 (opV bar [] H (.copy es d s)) fun p => K p.1 p.2
  | .clear es z x => w1 (opV bar [] H (.clear es z x)) fun p => K p.1 p.2
  | .min xs => w1 (opV bar [] H (.min xs)) fun p => K p.1 p.2
  | .max xs => w1 (opV bar [] H (.max xs)) fun p => K p.1 p.2
  | .sdata x => w1 (opV bar [] H (.sdata x)) fun p => K p.1 p.2
  | .ustr t a n => w1 (opV bar [] H (.ustr t a n)) fun p => K p.1 p.2
  | .del kk m k => w1 (opV bar [] H (.del kk m k)) fun p => K p.1 p.2

theorem opW_ok {op : Iop} (h : opW T bar H K op) : ∃ n v h, (∀ m, n ≤ m → insV (callN T m) bar [] H op = some (.ok v, h)) ∧ K v h := by
  have go : ∀ {op : Iop}, (∀ (C : Caller), insV C bar [] H op = (opV bar [] H op).map fun p => (CR.ok p.1, p.2)) → (w1 (opV bar [] H op) fun p => K p.1 p.2) → ∃ n v h, (∀ m, n ≤ m → insV (callN T m) bar [] H op = some (.ok v, h)) ∧ K v h := by
    intro op e h
    obtain ⟨⟨v, k⟩, h1, h2⟩ := w1_iff.1 h
    exact ⟨0, v, k, fun m _ => by rw [e, h1]; rfl, h2⟩
  cases op
  case mov x => exact ⟨0, _, H, fun m _ => rfl, h⟩
  case pick c a b =>
    simp only [opW] at h
    obtain ⟨p, v, h1, h2, h3⟩ := pickW_ok h
    refine ⟨0, v, H, fun m _ => ?_, h3⟩
    simp only [insV, opV, h1, h2]
    cases p <;> rfl
  case call f xs =>
    obtain ⟨n, r, k, h1, v, rfl, h2⟩ := h
    exact ⟨n, v, k, fun m hm => h1 m hm, h2⟩
  case callv x xs =>
    simp only [opW] at h
    split at h
    · rename_i f first cap e
      obtain ⟨n, r, k, h1, v, rfl, h2⟩ := h
      exact ⟨n, v, k, fun m hm => by simp only [insV, e]; exact h1 m hm, h2⟩
    · rename_i l e
      obtain ⟨n, r, k, h1, v, rfl, h2⟩ := h
      exact ⟨n, v, k, fun m hm => by simp only [insV, e]; exact h1 m hm, h2⟩
    · exact h.elim
  case panic x => exact h.elim
  case bad => exact h.elim
  all_goals exact go (fun _ => rfl) h

/-- A list of operations, told by its slots. -/
def WRs (T : Tab) (bar : Nat) : List Ins → Sl → Heap → (Sl → Heap → Prop) → Prop
  | [], σ, H, K => K σ H
  | ⟨d, op, none⟩ :: r, σ, H, K => w1 (Zfa σ op) fun op => opW T bar H (fun v H' => WRs T bar r (Zep σ d v) H' K) op
  | ⟨d, op, some (g, w)⟩ :: r, σ, H, K => w1 (Zeo σ g) fun p => match p with
    | .bool p => (p = w → w1 (Zfa σ op) fun op => opW T bar H (fun v H' => WRs T bar r (Zep σ d v) H' K) op) ∧ (p = !w → WRs T bar r (Zep σ d undefV) H K)
    | .tup [] => WRs T bar r (Zep σ d undefV) H K
    | _ => False

theorem WO_w1 {op : Iop} (h : w1 (Zfa σ op) fun op => opW T bar H K op) : WO T bar op σ H K := by
  intro env hk
  obtain ⟨op', h1, h2⟩ := w1_iff.1 h
  obtain ⟨n, v, k, h3, h4⟩ := opW_ok h2
  exact ⟨n, v, k, fun m hm => by rw [subI_ev hk h1]; exact h3 m hm, h4⟩

theorem WRs_ok : ∀ {l : List Ins} {σ : Sl} {H : Heap}, l.all (fun i => dstOk nt i.dst) = true → WRs T bar l σ H (fun σ' H' => Q .norm σ' H') → WR T bar nt l σ H Q
  | [], σ, H, _, h => WR_nil h
  | ⟨d, op, g⟩ :: r, σ, H, hd, h => by
    simp only [List.all_cons, Bool.and_eq_true] at hd
    obtain ⟨hd1, hd2⟩ := hd
    cases g with
    | none =>
      simp only [WRs] at h
      refine WR_cons hd1 ?_
      have := WO_w1 h
      intro env hk
      obtain ⟨n, v, k, h1, h2⟩ := this env hk
      exact ⟨n, v, k, h1, WRs_ok hd2 h2⟩
    | some g =>
      obtain ⟨g, w⟩ := g
      simp only [WRs] at h
      obtain ⟨p, h1, h2⟩ := w1_iff.1 h
      split at h2
      · rename_i p
        refine WR_guard h1 hd1 (fun e => ?_) (fun e => WRs_ok hd2 (h2.2 (by cases p <;> cases w <;> simp_all)))
        have := WO_w1 (h2.1 e)
        intro env hk
        obtain ⟨n, v, k, h3, h4⟩ := this env hk
        exact ⟨n, v, k, h3, WRs_ok hd2 h4⟩
      · exact WR_skip h1 hd1 (WRs_ok hd2 h2)
      · exact h2.elim

theorem Zbf {l : List Ins} (hd : l.all (fun i => dstOk nt i.dst) = true) (h : WRs T bar l σ H (fun σ' H' => Q .norm σ' H')) : WC T bar rd nt (.reg l) σ H Q := WC_reg (WRs_ok hd h)

/-! ### functions -/
def Zen : Nat → List V → Sl
  | _, [] => []
  | i, v :: r => (i, v) :: Zen (i + 1) r

theorem argS_get : ∀ (l : List V) (i t : Nat) (v : V), Zeo (Zen i l) t = some v → i ≤ t ∧ l[t - i]? = some v
  | [], i, t, v, h => by simp [Zen, Zeo] at h
  | x :: l, i, t, v, h => by
    simp only [Zen, Zeo] at h
    split at h
    · rename_i e; subst e; cases h; exact ⟨Nat.le_refl _, by simp⟩
    · obtain ⟨h1, h2⟩ := argS_get l (i + 1) t v h
      refine ⟨by omega, ?_⟩
      rw [show t - i = (t - (i + 1)) + 1 by omega]
      simpa using h2

def Zey (H : Heap) (σ : Sl) : Rv → Option V
  | .tmp t => Zeo σ t
  | .cell a k => (Zeo σ a).bind fun v => loadAt H k v

def Zel (H : Heap) (σ : Sl) : List Rv → Option (List V)
  | [] => some []
  | r :: l => (Zey H σ r).bind fun v => (Zel H σ l).map (v :: ·)

theorem resWL_ok {env : List V} (h : Kn σ env) : ∀ {l : List Rv} {vs : List V}, Zel H σ l = some vs → resL env H l = some vs
  | [], vs, hv => hv
  | r :: l, vs, hv => by
    simp only [Zel, Option.bind_eq_some_iff, Option.map_eq_some_iff] at hv
    obtain ⟨v, h1, l', h2, rfl⟩ := hv
    simp only [resL, Option.bind_eq_some_iff, Option.map_eq_some_iff]
    refine ⟨v, ?_, l', resWL_ok h h2, rfl⟩
    cases r with
    | tmp t => show some (env.getD t undefV) = some v; rw [List.getD_eq_getElem?_getD, h t v h1]; rfl
    | cell a k =>
      simp only [Zey, Option.bind_eq_some_iff] at h1
      obtain ⟨w, h3, h4⟩ := h1
      show loadAt H k (env.getD a undefV) = some v
      rw [List.getD_eq_getElem?_getD, h a w h3]; exact h4

/-- What is handed back at the end of a body. -/
def Ret (rs : List Rv) (K : V → Heap → Prop) : Out → Sl → Heap → Prop
  | .norm, σ, H => w1 (Zel H σ rs) fun l => K (Zec l) H
  | .ret, σ, H => w1 (Zel H σ rs) fun l => K (Zec l) H
  | _, _, _ => False

theorem RunsV_code {f : FuncId} {nt : Nat} {rs : List Rv} {body : IR} {args : List V} (hT : T f = some (.code nt rs false body)) (hl : args.length ≤ nt) (h : WC T bar none nt body (Zen 0 args) H (Ret rs K)) : RunsV T (.f f) args H bar K := by
  obtain ⟨n, o, e, k, s, h1, h2, h3, h4⟩ := h (args ++ List.replicate (nt - args.length) undefV) (by simp; omega) (fun t v ht => by
    obtain ⟨_, h⟩ := argS_get args 0 t v ht
    simp only [Nat.sub_zero] at h
    rw [List.getElem?_append_left (List.getElem?_eq_some_iff.1 h).1]; exact h)
  have hres : ∀ {vs : List V}, (o = .norm ∨ o = .ret) → Zel k s rs = some vs → K (Zec vs) k → RunsV T (.f f) args H bar K := by
    intro vs ho hv hK
    refine ⟨n + 1, .ok (Zec vs), k, fun m hm => ?_, _, rfl, hK⟩
    obtain ⟨m, rfl⟩ : ∃ i, m = i + 1 := ⟨m - 1, by omega⟩
    simp only [callN, hT, Bool.false_eq_true, if_false, runF, h1 m m (by omega) (by omega)]
    rcases ho with rfl | rfl
    · simp only [resWL_ok h3 hv]; rfl
    · simp only [resWL_ok h3 hv]; rfl
  cases o with
  | norm => obtain ⟨vs, h5, h6⟩ := w1_iff.1 h4; exact hres (.inl rfl) h5 h6
  | ret => obtain ⟨vs, h5, h6⟩ := w1_iff.1 h4; exact hres (.inr rfl) h5 h6
  | exit id => exact h4.elim
  | pan v => exact h4.elim

theorem RunsV.mono {c : Callee} {args : List V} {K K' : V → Heap → Prop} (h : RunsV T c args H bar K) (hk : ∀ v h, K v h → K' v h) : RunsV T c args H bar K' :=
  Runs.mono h fun _ _ ⟨v, e, hv⟩ => ⟨v, e, hk _ _ hv⟩

/-- What is shown of a call is told by the evaluator with some fuel. -/
theorem RunsV.told {c : Callee} {args : List V} {K : V → Heap → Prop} (h : RunsV T c args H bar K) : ∃ n v h, callN T n c args H bar = some (.ok v, h) ∧ K v h :=
  let ⟨n, _, k, h1, v, e, h2⟩ := h; ⟨n, v, k, by rw [h1 n (Nat.le_refl n), e], h2⟩

/-! ### the same as rules to rewrite by -/
section rules
variable {d : Option Nat} {r : List Ins} {L : Sl → Heap → Prop}

/-- What stands behind an operation whose value comes. -/
def Aft (T : Tab) (bar : Nat) (d : Option Nat) (r : List Ins) (σ : Sl) (L : Sl → Heap → Prop) (v : V) (H : Heap) : Prop := WRs T bar r (Zep σ d v) H L
/-- An operation, its operands put in, and what stands behind it. -/
def Fin (T : Tab) (bar : Nat) (d : Option Nat) (r : List Ins) (σ : Sl) (L : Sl → Heap → Prop) (H : Heap) (x : Option Iop) : Prop := w1 x fun op => opW T bar H (Aft T bar d r σ L) op
/-- Its value. -/
def Fin1 (T : Tab) (bar : Nat) (d : Option Nat) (r : List Ins) (σ : Sl) (L : Sl → Heap → Prop) (H : Heap) (x : Option V) : Prop := w1 x fun v => Aft T bar d r σ L v H
/-- Its value and heap. -/
def Fin2 (T : Tab) (bar : Nat) (d : Option Nat) (r : List Ins) (σ : Sl) (L : Sl → Heap → Prop) (x : Option (V × Heap)) : Prop := w1 x fun p => Aft T bar d r σ L p.1 p.2
/-- Its heap. -/
def FinH (T : Tab) (bar : Nat) (d : Option Nat) (r : List Ins) (σ : Sl) (L : Sl → Heap → Prop) (x : Option Heap) : Prop := w1 x fun h => Aft T bar d r σ L undefV h
/-- A guard. -/
def Gd (T : Tab) (bar : Nat) (d : Option Nat) (op : Iop) (w : Bool) (r : List Ins) (σ : Sl) (L : Sl → Heap → Prop) (H : Heap) (p : Option V) : Prop := w1 p fun p => match p with
    | .bool p => (p = w → Fin T bar d r σ L H (Zfa σ op)) ∧ (p = !w → WRs T bar r (Zep σ d undefV) H L)
    | .tup [] => WRs T bar r (Zep σ d undefV) H L
    | _ => False

theorem Zek : WRs T bar [] σ H L = L σ H := rfl
theorem Zcy {op : Iop} : WRs T bar (⟨d, op, none⟩ :: r) σ H L = Fin T bar d r σ L H (Zfa σ op) := rfl
theorem Zce {op : Iop} {g : Nat} {w : Bool} : WRs T bar (⟨d, op, some (g, w)⟩ :: r) σ H L = Gd T bar d op w r σ L H (Zeo σ g) := rfl
theorem r_gb {op : Iop} {p : Bool} : Gd T bar d op true r σ L H (some (.bool p)) = ((p = true → Fin T bar d r σ L H (Zfa σ op)) ∧ (p = false → WRs T bar r (Zep σ d undefV) H L)) := rfl
theorem r_gb' {op : Iop} {p : Bool} : Gd T bar d op false r σ L H (some (.bool p)) = ((p = false → Fin T bar d r σ L H (Zfa σ op)) ∧ (p = true → WRs T bar r (Zep σ d undefV) H L)) := rfl
theorem Zex {op : Iop} {w : Bool} : Gd T bar d op w r σ L H (some undefV) = WRs T bar r (Zep σ d undefV) H L := rfl

theorem r_1 {v : V} : Fin1 T bar d r σ L H (some v) = WRs T bar r (Zep σ d v) H L := rfl
theorem Zet : Fin1 T bar d r σ L H none = False := rfl
theorem Zer {c : Prop} [Decidable c] {x : Option V} : Fin1 T bar d r σ L H (if c then x else none) = (c ∧ Fin1 T bar d r σ L H x) := Zdc
theorem Zed {c : Prop} [Decidable c] {x : Option V} : Fin1 T bar d r σ L H (if c then none else x) = (¬ c ∧ Fin1 T bar d r σ L H x) := Zch
theorem Zes {α : Type} {f : α → V} {x : Option α} : Fin1 T bar d r σ L H (x.map f) = w1 x (fun a => Aft T bar d r σ L (f a) H) := Zdd
theorem Zeq {α : Type} {f : α → Option V} {x : Option α} : Fin1 T bar d r σ L H (x.bind f) = w1 x (fun a => Fin1 T bar d r σ L H (f a)) := Zcg
theorem r_2 {v : V} {H : Heap} : Fin2 T bar d r σ L (some (v, H)) = WRs T bar r (Zep σ d v) H L := rfl
theorem Zev : Fin2 T bar d r σ L none = False := rfl
theorem Zeu {c : Prop} [Decidable c] {x : Option (V × Heap)} : Fin2 T bar d r σ L (if c then x else none) = (c ∧ Fin2 T bar d r σ L x) := Zdc
theorem Zee {c : Prop} [Decidable c] {x : Option (V × Heap)} : Fin2 T bar d r σ L (if c then none else x) = (¬ c ∧ Fin2 T bar d r σ L x) := Zch
theorem r_H {H : Heap} : FinH T bar d r σ L (some H) = WRs T bar r (Zep σ d undefV) H L := rfl
theorem Zew {c : Prop} [Decidable c] {x : Option Heap} : FinH T bar d r σ L (if c then x else none) = (c ∧ FinH T bar d r σ L x) := Zdc

theorem Zdz {v : V} : Fin T bar d r σ L H (some (.mov (.c v))) = WRs T bar r (Zep σ d v) H L := rfl
theorem Zcw {a b c : V} : Fin T bar d r σ L H (some (.pick (.c c) (.c a) (.c b))) = pickW c a b (fun v => Aft T bar d r σ L v H) := rfl
theorem Zbv {t : Go.TypeId} {cs : List V} : Fin T bar d r σ L H (some (.alloc t cs)) = WRs T bar r (Zep σ d (.ptr H.length 0 0)) (H ++ [.cells t cs 0 0 false]) L := rfl
theorem Zdt {t : Go.TypeId} {v : V} : Fin T bar d r σ L H (some (.box t (.c v))) = Fin2 T bar d r σ L (if Zdp v then none else some (.ptr H.length 0 0, H ++ [.cells t (Zbt v) 0 0 false])) := rfl
theorem Zbw {z : List V} {ps : List (Nat × Nat × Rd)} : Fin T bar d r σ L H (some (.build z ps)) = Fin1 T bar d r σ L H ((Zdo z (Zbu [] ps)).map .agg) := by
  show w1 ((Zdo z (Zbu [] ps)).map fun cs => (V.agg cs, H)) _ = w1 _ _
  rw [Zdd, Zdd]
theorem Zaj {t : Go.TypeId} {es n : Nat} {z : List V} {ps : List (Nat × Nat × Rd)} : Fin T bar d r σ L H (some (.mkslice t es n z ps)) =
    Fin2 T bar d r σ L ((Zdo (Zcl z n) (Zbu [] ps)).map fun cs => (.own H.length 0 0 n es (some n), H ++ [.cells t cs 0 0 false])) := rfl
theorem Zct {k : Lk} {a : V} : Fin T bar d r σ L H (some (.load k (.c a))) = Fin1 T bar d r σ L H (loadAt H k a) := by
  show w1 ((loadAt H k a).map fun x => (x, H)) _ = w1 _ _
  rw [Zdd]
theorem Zcc {n : Nat} {a x : V} : Fin T bar d r σ L H (some (.store n (.c a) (.c x))) = FinH T bar d r σ L (Zcf H bar n a x) := by
  show w1 ((Zcf H bar n a x).map fun h => (undefV, h)) _ = w1 _ _
  rw [Zdd]
theorem Zaa {i g o : Nat} : Fin T bar d r σ L H (some (.nilck (.c (.ptr i g o)))) = WRs T bar r (Zep σ d (.ptr i g o)) H L := rfl
theorem Zad {c : List V} {o : Nat} : Fin T bar d r σ L H (some (.nilck (.c (.fp c o)))) = WRs T bar r (Zep σ d (.fp c o)) H L := rfl
theorem Zac {f : Go.Fn} {a c : List V} : Fin T bar d r σ L H (some (.nilck (.c (.fn f a c)))) = WRs T bar r (Zep σ d (.fn f a c)) H L := rfl
theorem Zds {o : Go.BinOp} {a b : V} : Fin T bar d r σ L H (some (.bin o (.c a) (.c b))) = Fin1 T bar d r σ L H (binV o a b) := by
  show w1 ((binV o a b).map fun x => (x, H)) _ = w1 _ _
  rw [Zdd]
theorem Zdu {ks : List Kk} {n : Bool} {a b : List V} : Fin T bar d r σ L H (some (.eqs ks n (.c (.agg a)) (.c (.agg b)))) = w1 (eqL ks a b) (fun x => Aft T bar d r σ L (.bool (x != n)) H) := by
  show w1 ((eqL ks a b).map fun x => (V.bool (x != n), H)) _ = _
  rw [Zdd]
theorem Zdv {k : Ek} {n : Bool} {a b : V} : Fin T bar d r σ L H (some (.eqx k n (.c a) (.c b))) = w1 (eqX k a b) (fun x => Aft T bar d r σ L (.bool (x != n)) H) := by
  show w1 ((eqX k a b).map fun x => (V.bool (x != n), H)) _ = _
  rw [Zdd]
theorem Zeb {b : Bool} : Fin T bar d r σ L H (some (.un .not (.c (.bool b)))) = WRs T bar r (Zep σ d (.bool !b)) H L := rfl
theorem Zea {k : Go.IntKind} {n : Int} : Fin T bar d r σ L H (some (.un .neg (.c (.int k n)))) = WRs T bar r (Zep σ d (.int k (k.wrap (-n)))) H L := rfl
theorem Zcs {k : Ck} {x : V} : Fin T bar d r σ L H (some (.conv k (.c x))) = Fin2 T bar d r σ L (convV H k x) := rfl
theorem Zby {t : Go.TypeId} {v : V} : Fin T bar d r σ L H (some (.iface t (.c v))) = WRs T bar r (Zep σ d (.iface t v)) H L := rfl
theorem Zcv {f : Go.Fn} {a c : List Rd} : Fin T bar d r σ L H (some (.mkfn f a c)) = WRs T bar r (Zep σ d (.fn f (a.map (·.ev [])) (c.map (·.ev [])))) H L := rfl
theorem Zbz : Fin T bar d r σ L H (some .mkmap) = WRs T bar r (Zep σ d (.map H.length)) (H ++ [.map []]) L := rfl
theorem Zav {t : Go.TypeId} {es b : Nat} {z : List V} {k k' : Go.IntKind} {l c : Int} : Fin T bar d r σ L H (some (.makesl t es b z (.c (.int k l)) (.c (.int k' c)))) =
    Fin2 T bar d r σ L (if 0 ≤ l ∧ l ≤ c ∧ (b * c : Int) ≤ 281474976710656 ∧ c ≤ 9223372036854775807 then some (.own H.length 0 0 l.toNat es (some c.toNat), H ++ [.cells t (Zcl z c.toNat) 0 0 false]) else none) := rfl
theorem Zcb {k : Xk} {x : V} {l h m : Option Rd} : Fin T bar d r σ L H (some (.slice k (.c x) l h m)) = Fin1 T bar d r σ L H (sliceV k x (l.map (·.ev [])) (h.map (·.ev [])) (m.map (·.ev []))) := by
  show w1 ((sliceV k x _ _ _).map fun x => (x, H)) _ = w1 _ _
  rw [Zdd]
theorem Zak {n i g o : Nat} : Fin T bar d r σ L H (some (.off n (.c (.ptr i g o)))) = WRs T bar r (Zep σ d (.ptr i g (o + n))) H L := rfl
theorem Zaw {n o : Nat} {c : List V} : Fin T bar d r σ L H (some (.off n (.c (.fp c o)))) = WRs T bar r (Zep σ d (.fp c (o + n))) H L := rfl
theorem Zdx {o : Nat} {k : Lk} {cs : List V} : Fin T bar d r σ L H (some (.fld o k (.c (.agg cs)))) = Fin1 T bar d r σ L H (Ev.take k cs o) := by
  show w1 ((Ev.take k cs o).map fun x => (x, H)) _ = w1 _ _
  rw [Zdd]
theorem Zau {k : Xk} {x i : V} : Fin T bar d r σ L H (some (.ixaddr k (.c x) (.c i))) = Fin1 T bar d r σ L H (ixaddrV k x i) := by
  show w1 ((ixaddrV k x i).map fun x => (x, H)) _ = w1 _ _
  rw [Zdd]
theorem Zdy {k : Xk} {l : Lk} {x i : V} : Fin T bar d r σ L H (some (.idx k l (.c x) (.c i))) = Fin1 T bar d r σ L H (idxV k l x i) := by
  show w1 ((idxV k l x i).map fun x => (x, H)) _ = w1 _ _
  rw [Zdd]
theorem Zca {s : List UInt8} : Fin T bar d r σ L H (some (.range (.c (.str s)))) = WRs T bar r (Zep σ d (.it H.length)) (H ++ [.siter s 0]) L := rfl
theorem Zdw {vs : List V} {i : Nat} : Fin T bar d r σ L H (some (.ext (.c (.tup vs)) i)) = Fin1 T bar d r σ L H (vs[i]?) := by
  show w1 ((vs[i]?).map fun x => (x, H)) _ = w1 _ _
  rw [Zdd]
theorem Zai {n : Bool} {c : Option Nat} {rows : List (List V)} : Fin T bar d r σ L H (some (.len (.c (.vec n c rows)))) = WRs T bar r (Zep σ d (.int .i64 rows.length)) H L := rfl
theorem Zah {id g o len es : Nat} {c : Option Nat} : Fin T bar d r σ L H (some (.len (.c (.own id g o len es c)))) = WRs T bar r (Zep σ d (.int .i64 len)) H L := rfl
theorem Zcx {s : List UInt8} : Fin T bar d r σ L H (some (.slen (.c (.str s)))) = WRs T bar r (Zep σ d (.int .i64 s.length)) H L := rfl
theorem Zat {t : Go.TypeId} {es b : Nat} {s x : V} : Fin T bar d r σ L H (some (.append t es b (.c s) (.c x))) = w1 (Zdr x) (fun m => w1 (Zab H es m x) (fun xs => Fin2 T bar d r σ L (Zbh H bar t es b s xs m))) := by
  show w1 ((Zdr x).bind fun m => (Zab H es m x).bind fun xs => Zbh H bar t es b s xs m) _ = _
  rw [Zcg]
  congr 1
  funext m
  rw [Zcg]; rfl
theorem Zcr {f : Go.FuncId} {xs : List Rd} : Fin T bar d r σ L H (some (.call f xs)) = RunsV T (.f f) (xs.map (·.ev [])) H bar (Aft T bar d r σ L) := rfl
theorem Zbx {f : Go.FuncId} {a c : List V} {xs : List Rd} : Fin T bar d r σ L H (some (.callv (.c (.fn (.func f) a c)) xs)) = RunsV T (.f f) (a ++ xs.map (·.ev []) ++ c) H bar (Aft T bar d r σ L) := rfl
theorem Zcd {l : Nat} {xs : List Rd} : Fin T bar d r σ L H (some (.callv (.c (.fn (.yield l) [] [])) xs)) = RunsV T (.yield l) (xs.map (·.ev [])) H bar (Aft T bar d r σ L) := rfl
theorem Zef {v : V} : Aft T bar d r σ L v H = WRs T bar r (Zep σ d v) H L := rfl

/-! slices of texts and of slices -/
theorem Zcz {s : List UInt8} {k k' : Go.IntKind} {a b : Int} : sliceV .str (.str s) (some (.int k a)) (some (.int k' b)) none = if 0 ≤ b ∧ b ≤ s.length then (if 0 ≤ a ∧ a ≤ b then some (.str ((s.take b.toNat).drop a.toNat)) else none) else none := by
  by_cases h1 : 0 ≤ b ∧ b ≤ s.length
  · by_cases h2 : 0 ≤ a ∧ a ≤ b
    · have h3 : 0 ≤ a ∧ a ≤ (b.toNat : Int) := by omega
      simp only [sliceV, bounds, bound, h1, h2, h3, and_self, if_true]
    · have h3 : ¬ (0 ≤ a ∧ a ≤ (b.toNat : Int)) := by omega
      simp only [sliceV, bounds, bound, h1, h2, h3, and_self, if_true, if_false]
  · simp only [sliceV, bounds, bound, h1, if_false]
theorem Zbb {s : List UInt8} {k : Go.IntKind} {a : Int} : sliceV .str (.str s) (some (.int k a)) none none = if 0 ≤ a ∧ a ≤ s.length then some (.str (s.drop a.toNat)) else none := by
  by_cases h2 : 0 ≤ a ∧ a ≤ s.length
  · simp [sliceV, bounds, bound, h2]
  · simp only [sliceV, bounds, bound, h2, if_false]
theorem Zba {s : List UInt8} {k' : Go.IntKind} {b : Int} : sliceV .str (.str s) none (some (.int k' b)) none = if 0 ≤ b ∧ b ≤ s.length then some (.str (s.take b.toNat)) else none := by
  by_cases h1 : 0 ≤ b ∧ b ≤ s.length
  · simp [sliceV, bounds, bound, h1]
  · simp only [sliceV, bounds, bound, h1, if_false]
end rules

end Go.Ev
/- More rules: guards that are not told, slices, draws, quiet calls. -/
namespace Go.Ev

variable {T : Tab} {bar : Nat} {rd : Option Nat} {nt : Nat} {σ τ : Sl} {H : Heap} {Q : Out → Sl → Heap → Prop} {K : V → Heap → Prop}
variable {d : Option Nat} {r : List Ins} {L : Sl → Heap → Prop}

theorem Gd_b {op : Iop} {p : Bool} (h1 : p = true → Fin T bar d r σ L H (Zfa σ op)) (h2 : p = false → WRs T bar r (Zep σ d undefV) H L) : Gd T bar d op true r σ L H (some (.bool p)) := ⟨h1, h2⟩
theorem Gd_b' {op : Iop} {p : Bool} (h1 : p = false → Fin T bar d r σ L H (Zfa σ op)) (h2 : p = true → WRs T bar r (Zep σ d undefV) H L) : Gd T bar d op false r σ L H (some (.bool p)) := ⟨h1, h2⟩
theorem Zej {op : Iop} : Gd T bar d op true r σ L H (some (.bool true)) = Fin T bar d r σ L H (Zfa σ op) := by simp [Gd, w1]
theorem Zei {op : Iop} : Gd T bar d op true r σ L H (some (.bool false)) = WRs T bar r (Zep σ d undefV) H L := by simp [Gd, w1]
theorem Zeh {op : Iop} : Gd T bar d op false r σ L H (some (.bool true)) = WRs T bar r (Zep σ d undefV) H L := by simp [Gd, w1]
theorem Zeg {op : Iop} : Gd T bar d op false r σ L H (some (.bool false)) = Fin T bar d r σ L H (Zfa σ op) := by simp [Gd, w1]
theorem Zay {a b : V} {K : V → Prop} : pickW (.bool true) a b K = K a := by
  unfold pickW; cases a <;> cases b <;> simp
theorem Zax {a b : V} {K : V → Prop} : pickW (.bool false) a b K = K b := by
  unfold pickW; cases a <;> cases b <;> simp

theorem WC_cond_t {c : Rd} {a b : IR} (hc : evS σ c = some (.bool true)) (h : WC T bar rd nt a σ H Q) : WC T bar rd nt (.cond c a b) σ H Q := Zbe hc (fun _ => h) (fun h => by cases h)
theorem WC_cond_f {c : Rd} {a b : IR} (hc : evS σ c = some (.bool false)) (h : WC T bar rd nt b σ H Q) : WC T bar rd nt (.cond c a b) σ H Q := Zbe hc (fun h => by cases h) (fun _ => h)

theorem Zcu {k : IntKind} {x y : Int} : Fin T bar d r σ L H (some (.min [.c (.int k x), .c (.int k y)])) = WRs T bar r (Zep σ d (.int k (if y < x then y else x))) H L := by
  show w1 ((foldO minV (.int k x) [.int k y]).map fun x => (x, H)) _ = _
  simp [foldO, minV, w1, Aft]
theorem Zag {id g o len es c : Nat} : Fin T bar d r σ L H (some (.cap (.c (.own id g o len es (some c))))) = WRs T bar r (Zep σ d (.int .i64 c)) H L := rfl

/-- One cell of the only object. -/
theorem st_one {t g o prot : Nat} {cs : List V} {x : V} (hx : Zbt x = [x]) (ht : Zdp x = false) : Zcf [.cells t cs g prot false] 0 1 (.ptr 0 g o) x = if prot ≤ o ∧ o < cs.length then some [.cells t (cs.set o x) g prot false] else none := by
  have e : o < cs.length → Zdb cs o [x] = cs.set o x := fun h => by
    unfold Zdb
    rw [List.set_eq_take_append_cons_drop, if_pos h]; simp
  simp only [Zcf, Zck, hx, ht, List.getElem?_cons_zero, List.length_cons, List.length_nil, Nat.zero_add, and_self, if_true, Nat.le_refl, true_and, List.set_cons_zero]
  by_cases h : prot ≤ o ∧ o < cs.length
  · rw [if_pos h, if_pos (by omega), e h.2]
  · rw [if_neg h, if_neg (by omega)]

/-- One cell of the last object. -/
theorem st_last {t g o prot : Nat} {cs : List V} {x : V} (hb : bar ≤ H.length) (hx : Zbt x = [x]) (ht : Zdp x = false) : Zcf (H ++ [.cells t cs g prot false]) bar 1 (.ptr H.length g o) x = if prot ≤ o ∧ o < cs.length then some (H ++ [.cells t (cs.set o x) g prot false]) else none := by
  have e : o < cs.length → Zdb cs o [x] = cs.set o x := fun h => by
    unfold Zdb
    rw [List.set_eq_take_append_cons_drop, if_pos h]; simp
  simp only [Zcf, Zck, hx, ht, List.getElem?_concat_length, List.length_cons, List.length_nil, Nat.zero_add, and_self, if_true, hb, true_and]
  by_cases h : prot ≤ o ∧ o < cs.length
  · rw [if_pos h, if_pos (by omega), e h.2, List.set_append_right _ _ (Nat.le_refl _)]; simp
  · rw [if_neg h, if_neg (by omega)]

theorem o_len_g {v : V} : Fin T bar d r σ L H (some (.len (.c v))) = Fin1 T bar d r σ L H ((lenSl v).map fun n => V.int .i64 n) := by
  show w1 ((lenSl v).map fun n => (V.int .i64 (n : Int), H)) _ = w1 _ _
  rw [Zdd, Zdd]

/-- What a slice of texts reads as. -/
structure Sees (H : Heap) (v : V) (l : List (List UInt8)) : Prop where
  len : lenSl v = some l.length
  get : ∀ i (h : i < l.length), ∃ a, (∀ k, ixaddrV (.sl 1) v (.int k i) = some a) ∧ loadAt H .one a = some (.str l[i])

theorem Sees.own {id g o n t p : Nat} {f : Bool} {c : Option Nat} {cs : List V} {l : List (List UInt8)} (h1 : H[id]? = some (.cells t cs g p f)) (hn : n = l.length) (h2 : (cs.drop o).take n = l.map .str) : Sees H (.own id g o n 1 c) l := by
  subst hn
  refine ⟨rfl, fun i hi => ⟨.ptr id g (o + i * 1), fun k => ?_, ?_⟩⟩
  · simp only [ixaddrV]
    rw [if_pos (by simp; omega)]; simp
  · simp only [loadAt, h1, if_true, take]
    have := congrArg (fun l => l[i]?) h2
    simp only [List.getElem?_map, List.getElem?_eq_getElem hi, Option.map_some] at this
    rw [List.getElem?_take, if_pos hi, List.getElem?_drop] at this
    simpa using this

/-! slices -/
theorem Zcp {n : Bool} {c : Option Nat} {rows : List (List V)} {k : IntKind} {es : Nat} {i : Int} :
    ixaddrV (.sl es) (.vec n c rows) (.int k i) = if 0 ≤ i then (rows[i.toNat]?).bind fun r => if r.length = es then some (.fp r 0) else none else none := rfl
theorem Zcn {id g off len es es' : Nat} {c : Option Nat} {k : IntKind} {i : Int} :
    ixaddrV (.sl es) (.own id g off len es' c) (.int k i) = if es' = es ∧ 0 ≤ i ∧ i < len then some (.ptr id g (off + i.toNat * es)) else none := rfl
theorem Zco {s : List UInt8} {l : Lk} {k : IntKind} {i : Int} : idxV .str l (.str s) (.int k i) = if 0 ≤ i then (s[i.toNat]?).map byteV else none := rfl
theorem Zdq {k : Lk} {cs : List V} {o : Nat} : loadAt H k (.fp cs o) = Ev.take k cs o := rfl
theorem Zcq {k : Lk} {id g o : Nat} : loadAt H k (.ptr id g o) = match H[id]? with
    | some (.cells _ cs g' _ _) => if g' = g then Ev.take k cs o else none
    | _ => none := rfl

theorem Zda {n : Bool} {c : Option Nat} {rows : List (List V)} {k k' : IntKind} {es : Nat} {a b : Int} : sliceV (.sl es) (.vec n c rows) (some (.int k a)) (some (.int k' b)) none =
    if 0 ≤ b ∧ b ≤ rows.length then (if 0 ≤ a ∧ a ≤ b then (if rowsOk es rows = true then some (.vec n (capOr none c rows.length a.toNat) ((rows.take b.toNat).drop a.toNat)) else none) else none) else none := by
  by_cases h1 : 0 ≤ b ∧ b ≤ rows.length
  · by_cases h2 : 0 ≤ a ∧ a ≤ b
    · have h3 : 0 ≤ a ∧ a ≤ (b.toNat : Int) := by omega
      simp only [sliceV, bounds, bound, h1, h2, h3, and_self, if_true]
    · have h3 : ¬ (0 ≤ a ∧ a ≤ (b.toNat : Int)) := by omega
      simp only [sliceV, bounds, bound, h1, h2, h3, and_self, if_true, if_false]
  · simp only [sliceV, bounds, bound, h1, if_false]
theorem Zbc {n : Bool} {c : Option Nat} {rows : List (List V)} {k' : IntKind} {es : Nat} {b : Int} : sliceV (.sl es) (.vec n c rows) none (some (.int k' b)) none =
    if 0 ≤ b ∧ b ≤ rows.length then (if rowsOk es rows = true then some (.vec n (capOr none c rows.length 0) (rows.take b.toNat)) else none) else none := by
  by_cases h1 : 0 ≤ b ∧ b ≤ rows.length
  · simp [sliceV, bounds, bound, h1]
  · simp only [sliceV, bounds, bound, h1, if_false]
theorem Zaz {id g off len es : Nat} {c : Option Nat} {k' : IntKind} {b : Int} : sliceV (.sl es) (.own id g off len es c) none (some (.int k' b)) none =
    if 0 ≤ b ∧ b ≤ (c.getD len : Nat) then some (.own id g off b.toNat es (capOr none c (c.getD len) 0)) else none := by
  by_cases h1 : 0 ≤ b ∧ b ≤ (c.getD len : Nat)
  · simp [sliceV, bounds, bound, h1]
  · simp only [sliceV, bounds, bound, h1, if_true, if_false]

/-! draws -/
def noAlo : List (Ins × Md) → Bool
  | [] => true
  | (_, .alo) :: _ => false
  | (_, _) :: r => noAlo r

/-- Operations that leave the heap and call nobody. -/
def calm : Iop → Bool
  | .mov _ => true
  | .pick .. => true
  | .build .. => true
  | .load .. => true
  | .nilck _ => true
  | .bin .. => true
  | .eqs .. => true
  | .eqx .. => true
  | .eqp .. => true
  | .un .. => true
  | .iface .. => true
  | .mkfn .. => true
  | .slice .. => true
  | .slicea .. => true
  | .off .. => true
  | .fld .. => true
  | .ixaddr .. => true
  | .idx .. => true
  | .look .. => true
  | .ext .. => true
  | .len _ => true
  | .slen _ => true
  | .mlen _ => true
  | .cap _ => true
  | _ => false

theorem map_heap {α : Type} {x : Option α} {f : α → V} {H H' : Heap} {v : V} (h : (x.map fun a => (f a, H)) = some (v, H')) : H' = H := by
  cases x with
  | none => cases h
  | some a => cases h; rfl

theorem calm_heap {bar : Nat} {env : List V} {H H' : Heap} {op : Iop} {v : V} (hc : calm op = true) (h : opV bar env H op = some (v, H')) : H' = H := by
  cases op <;> simp only [calm, Bool.false_eq_true] at hc <;> simp only [opV] at h
  all_goals first
    | exact map_heap h
    | (cases h; rfl)
    | (split at h <;> first | (cases h; rfl) | exact map_heap h | cases h)
    | skip
  case look kk z x i ok =>
    cases hm : mapOf H (x.ev env) with
    | none => rw [hm] at h; simp at h
    | some es =>
      rw [hm] at h
      simp only [Option.bind_eq_bind, Option.bind_some] at h
      split at h
      · cases hf : findKey kk (i.ev env) es 0 with
        | none => rw [hf] at h; simp at h
        | some r =>
          rw [hf] at h
          simp only [Option.bind_some] at h
          split at h <;> (cases h; rfl)
      · cases h

theorem calm_ins {C : Caller} {bar : Nat} {env : List V} {H H' : Heap} {op : Iop} {v : CR} (hc : calm op = true) (h : insV C bar env H op = some (v, H')) : H' = H := by
  have go : ∀ {op : Iop}, (∀ (C : Caller), insV C bar env H op = (opV bar env H op).map fun p => (CR.ok p.1, p.2)) → calm op = true → insV C bar env H op = some (v, H') → H' = H := by
    intro op e hc h
    rw [e, Option.map_eq_some_iff] at h
    obtain ⟨p, h1, h2⟩ := h
    cases h2
    exact calm_heap hc (v := p.1) (by rw [h1])
  cases op <;> simp only [calm, Bool.false_eq_true] at hc
  all_goals exact go (fun _ => rfl) rfl h

theorem regd_reg {C : Caller} {bar base : Nat} : ∀ {ops : List (Ins × Md)} {q : Nat} {env env' : List V} {H H' : Heap}, noAlo ops = true → ops.all (fun x => calm x.1.op && match x.2 with | .call => false | _ => true) = true →
    regV C bar (ops.map (·.1)) env H = some (.norm, env', H') → H' = H ∧ ∃ hs, regdV C bar base ops q env H = some (env', H, hs) ∧ ∀ h ∈ hs, h = H
  | [], q, env, env', H, H', _, _, h => by cases h; exact ⟨rfl, [], rfl, by simp⟩
  | (i, md) :: r, q, env, env', H, H', hn, hc, h => by
    simp only [List.all_cons, Bool.and_eq_true] at hc
    obtain ⟨⟨hc1, hc3⟩, hc2⟩ := hc
    have hn' : noAlo r = true := by cases md <;> simp_all [noAlo]
    simp only [List.map_cons, regV] at h
    by_cases hw : wanted env i.guard = true
    · rw [if_pos hw] at h
      cases hi : insV C bar env H i.op with
      | none => rw [hi] at h; cases h
      | some p =>
        obtain ⟨cr, H1⟩ := p
        rw [hi] at h
        have e := calm_ins hc1 hi
        subst e
        cases cr with
        | pan v => simp at h
        | ok v =>
          simp only at h
          obtain ⟨e, hs, h1, h2⟩ := regd_reg hn' hc2 h
          cases md with
          | alo => simp [noAlo] at hn
          | call => simp at hc3
          | free => exact ⟨e, hs, by simp only [regdV, hw, if_true, hi]; exact h1, h2⟩
          | spine => exact ⟨e, H1 :: hs, by simp only [regdV, hw, if_true, hi, h1]; rfl, by simpa using h2⟩
    · rw [if_neg hw] at h
      obtain ⟨e, hs, h1, h2⟩ := regd_reg hn' hc2 h
      cases md with
      | alo => simp [noAlo] at hn
      | call => simp at hc3
      | free => exact ⟨e, hs, by simp only [regdV, hw, if_false]; exact h1, h2⟩
      | spine => exact ⟨e, H :: hs, by simp only [regdV, hw, if_false, h1]; rfl, by simpa using h2⟩

/-- What is told anew, where the heap stays: the same load once more. -/
def chkS (σ : Sl) (H : Heap) : List Chk → Prop
  | [] => True
  | c :: r => (match c.what with
    | .load k a => w1 (evS σ a) fun a => w1 (loadAt H k a) fun v => w1 (Zeo σ c.dst) fun w => sameV v w = true
    | .call _ => False) ∧ chkS σ H r

theorem chkS_ok {σ : Sl} {env : List V} {H : Heap} {hs : List Heap} (hk : Kn σ env) (hh : ∀ h ∈ hs, h = H) : ∀ {l : List Chk}, chkS σ H l → l.all (chkOk env hs) = true
  | [], _ => rfl
  | c :: r, h => by
    simp only [chkS] at h
    simp only [List.all_cons, Bool.and_eq_true]
    refine ⟨?_, chkS_ok hk hh h.2⟩
    have h1 := h.1
    unfold chkOk
    cases hw : c.what with
    | call args => rw [hw] at h1; exact h1.elim
    | load k a =>
      rw [hw] at h1
      obtain ⟨a', e1, h1⟩ := w1_iff.1 h1
      obtain ⟨v, e2, h1⟩ := w1_iff.1 h1
      obtain ⟨w, e3, h4⟩ := w1_iff.1 h1
      simp only [Bool.or_eq_true]
      right
      rw [List.all_eq_true]
      intro x hx
      have := hh x (List.mem_of_mem_drop (List.mem_of_mem_take hx))
      subst this
      rw [evS_ev hk e1, e2]
      simp only
      rw [List.getD_eq_getElem?_getD, hk _ _ e3]
      exact h4

theorem countP_alo : ∀ {ops : List (Ins × Md)}, noAlo ops = true → ops.countP (fun x => x.2 = .alo) = 0
  | [], _ => rfl
  | (i, md) :: r, h => by
    have hn' : noAlo r = true := by cases md <;> simp_all [noAlo]
    have := countP_alo hn'
    rw [List.countP_cons, this]
    cases md <;> simp [noAlo] at h ⊢

/-- A region of open order whose operations leave the heap. -/
theorem WC_regd {ops : List (Ins × Md)} {chks : List Chk} (hn : noAlo ops = true) (hc : ops.all (fun x => calm x.1.op && match x.2 with | .call => false | _ => true) = true) (hd : (ops.map (·.1)).all (fun i => dstOk nt i.dst) = true)
    (h : WRs T bar (ops.map (·.1)) σ H (fun σ' H' => chkS σ' H chks ∧ Q .norm σ' H')) : WC T bar rd nt (.regd ops chks) σ H Q := by
  have hh := WRs_ok (nt := nt) (Q := fun o σ' H' => o = .norm ∧ chkS σ' H chks ∧ Q .norm σ' H') hd (by simpa using h)
  intro env h1 h2
  obtain ⟨n, o, e, k, s, a1, b1, c1, rfl, hch, hq⟩ := hh env h1 h2
  obtain ⟨ek, _⟩ := regd_reg (C := callN T n) (bar := bar) (base := H.length) (q := 0) hn hc (a1 n (Nat.le_refl n))
  subst ek
  refine ⟨n, .norm, e, k, s, fun m j hm hj => ?_, b1, c1, hq⟩
  obtain ⟨_, hs, e2, e3⟩ := regd_reg (C := callN T m) (bar := bar) (base := k.length) (q := 0) hn hc (a1 m hm)
  simp only [exec, countP_alo hn, List.replicate_zero, List.append_nil, e2]
  rw [if_pos (chkS_ok c1 (by simpa using e3) hch)]

theorem regd_reg0 {C : Caller} {bar base : Nat} : ∀ {ops : List (Ins × Md)} {q : Nat} {env env' : List V} {H H' : Heap}, ops.all (fun x => match x.2 with | .spine => true | .free => calm x.1.op | _ => false) = true →
    regV C bar (ops.map (·.1)) env H = some (.norm, env', H') → ∃ hs, regdV C bar base ops q env H = some (env', H', hs)
  | [], q, env, env', H, H', _, h => by cases h; exact ⟨[], rfl⟩
  | (i, md) :: r, q, env, env', H, H', hc, h => by
    simp only [List.all_cons, Bool.and_eq_true] at hc
    obtain ⟨hc1, hc2⟩ := hc
    simp only [List.map_cons, regV] at h
    by_cases hw : wanted env i.guard = true
    · rw [if_pos hw] at h
      cases hi : insV C bar env H i.op with
      | none => rw [hi] at h; cases h
      | some p =>
        obtain ⟨cr, H1⟩ := p
        rw [hi] at h
        cases cr with
        | pan v => simp at h
        | ok v =>
          simp only at h
          obtain ⟨hs, h1⟩ := regd_reg0 hc2 h
          cases md with
          | alo => simp at hc1
          | call => simp at hc1
          | free =>
            have e := calm_ins hc1 hi
            subst e
            exact ⟨hs, by simp only [regdV, hw, if_true, hi]; exact h1⟩
          | spine => exact ⟨H1 :: hs, by simp only [regdV, hw, if_true, hi, h1]; rfl⟩
    · rw [if_neg hw] at h
      obtain ⟨hs, h1⟩ := regd_reg0 hc2 h
      cases md with
      | alo => simp at hc1
      | call => simp at hc1
      | free => exact ⟨hs, by simp only [regdV, hw, if_false]; exact h1⟩
      | spine => exact ⟨H :: hs, by simp only [regdV, hw, if_false, h1]; rfl⟩

/-- A region of open order where nothing is to be told anew. -/
theorem WC_regd0 {ops : List (Ins × Md)} (hn : noAlo ops = true) (hc : ops.all (fun x => match x.2 with | .spine => true | .free => calm x.1.op | _ => false) = true) (hd : (ops.map (·.1)).all (fun i => dstOk nt i.dst) = true)
    (h : WRs T bar (ops.map (·.1)) σ H (fun σ' H' => Q .norm σ' H')) : WC T bar rd nt (.regd ops []) σ H Q := by
  have hh := WRs_ok (nt := nt) (Q := fun o σ' H' => o = .norm ∧ Q .norm σ' H') hd (by simpa using h)
  intro env h1 h2
  obtain ⟨n, o, e, k, s, a1, b1, c1, rfl, hq⟩ := hh env h1 h2
  refine ⟨n, .norm, e, k, s, fun m j hm hj => ?_, b1, c1, hq⟩
  obtain ⟨hs, e2⟩ := regd_reg0 (C := callN T m) (bar := bar) (base := H.length) (q := 0) hc (a1 m hm)
  simp only [exec, countP_alo hn, List.replicate_zero, List.append_nil, e2]
  rfl

/-! rounds one by one -/
def WL (T : Tab) (bar : Nat) (rd : Option Nat) (nt : Nat) (b : IR) (σ : Sl) (H : Heap) (Q : Out → Sl → Heap → Prop) : Prop := ∀ env : List V, env.length = nt → Kn σ env →
  ∃ n o e h σ', (∀ m k j, n ≤ m → n ≤ k → n ≤ j → iter (exec (callN T m) k bar rd b) j env H = some (o, e, h)) ∧ e.length = nt ∧ Kn σ' e ∧ Q o σ' h

def Zdi (T : Tab) (bar : Nat) (rd : Option Nat) (nt : Nat) (b : IR) (Q : Out → Sl → Heap → Prop) : Out → Sl → Heap → Prop
  | .norm, σ, H => WL T bar rd nt b σ H Q
  | o, σ, H => Q o σ H

theorem WC_loopL {b : IR} (h : WL T bar rd nt b σ H Q) : WC T bar rd nt (.loop b) σ H Q := fun env h1 h2 =>
  let ⟨n, o, e, k, s, a, r⟩ := h env h1 h2; ⟨n, o, e, k, s, fun m j hm hj => a m j j hm hj hj, r⟩

theorem WL_less {b : IR} (hs : Sub τ σ) (h : WL T bar rd nt b τ H Q) : WL T bar rd nt b σ H Q := fun env h1 h2 => h env h1 (h2.sub hs)

theorem WL_step {b : IR} (h : WC T bar rd nt b σ H (Zdi T bar rd nt b Q)) : WL T bar rd nt b σ H Q := by
  intro env h1 h2
  obtain ⟨n, o, e, k, s, a1, b1, c1, d1⟩ := h env h1 h2
  have other : o ≠ .norm → ∃ n o e h σ', (∀ m k j, n ≤ m → n ≤ k → n ≤ j → iter (exec (callN T m) k bar rd b) j env H = some (o, e, h)) ∧ e.length = nt ∧ Kn σ' e ∧ Q o σ' h := by
    intro hne
    refine ⟨n + 1, o, e, k, s, fun m k' j hm hk hj => ?_, b1, c1, by cases o <;> first | exact absurd rfl hne | exact d1⟩
    obtain ⟨j, rfl⟩ : ∃ i, j = i + 1 := ⟨j - 1, by omega⟩
    simp only [iter, a1 m k' (by omega) (by omega)]
    cases o <;> first | exact absurd rfl hne | rfl
  cases o with
  | norm =>
    obtain ⟨n2, o2, e2, k2, s2, a2, b2, c2, d2⟩ := d1 e b1 c1
    refine ⟨max n n2 + 1, o2, e2, k2, s2, fun m k' j hm hk hj => ?_, b2, c2, d2⟩
    obtain ⟨j, rfl⟩ : ∃ i, j = i + 1 := ⟨j - 1, by omega⟩
    simp only [iter, a1 m k' (by omega) (by omega)]
    exact a2 m k' j (by omega) (by omega) (by omega)
  | ret => exact other (by simp)
  | exit id => exact other (by simp)
  | pan v => exact other (by simp)

theorem WL_step' {b b' : IR} (e : b = b') (h : WC T bar rd nt b' σ H (Zdi T bar rd nt b Q)) : WL T bar rd nt b σ H Q := by subst e; exact WL_step h
theorem Zaf {es : Nat} : (rowsOk es [] = true) = True := by simp [rowsOk]

/-! quiet calls, and the prims -/
theorem RunsV_quiet {f : FuncId} {nt : Nat} {rs : List Rv} {body : IR} {args : List V} (hT : T f = some (.code nt rs true body)) (hl : args.length ≤ nt) (ha : mapO (frzV 0 H frzFuel) args = some args) (hp : freeL 0 args = true) (ho : args.flatMap (ownIds H frzFuel) = [])
    (h : WC T 0 none nt body (Zen 0 args) [] (Ret rs fun v H' => ∃ v', frzV 0 H' frzFuel v = some v' ∧ free 0 v' = true ∧ K v' H)) : RunsV T (.f f) args H bar K := by
  obtain ⟨n, o, e, k, s, h1, h2, h3, h4⟩ := h (args ++ List.replicate (nt - args.length) undefV) (by simp; omega) (fun t v ht => by
    obtain ⟨_, h⟩ := argS_get args 0 t v ht
    simp only [Nat.sub_zero] at h
    rw [List.getElem?_append_left (List.getElem?_eq_some_iff.1 h).1]; exact h)
  have hres : ∀ {vs : List V}, (o = .norm ∨ o = .ret) → Zel k s rs = some vs → (∃ v', frzV 0 k frzFuel (Zec vs) = some v' ∧ free 0 v' = true ∧ K v' H) → RunsV T (.f f) args H bar K := by
    intro vs hor hv ⟨v', hf1, hf2, hK⟩
    refine ⟨n + 1, .ok v', H, fun m hm => ?_, _, rfl, hK⟩
    obtain ⟨m, rfl⟩ : ∃ i, m = i + 1 := ⟨m - 1, by omega⟩
    have hrun : runF (callN T m) m 0 nt rs body args [] = some (.ok (Zec vs), k) := by
      simp only [runF, h1 m m (by omega) (by omega)]
      rcases hor with rfl | rfl
      · simp only [resWL_ok h3 hv]; rfl
      · simp only [resWL_ok h3 hv]; rfl
    simp only [callN, hT, if_true, quietV, ha, hp, hrun, hf1, hf2, ho, List.all_nil, markFrz, ite_self]
  cases o with
  | norm => obtain ⟨vs, h5, h6⟩ := w1_iff.1 h4; exact hres (.inl rfl) h5 h6
  | ret => obtain ⟨vs, h5, h6⟩ := w1_iff.1 h4; exact hres (.inr rfl) h5 h6
  | exit id => exact h4.elim
  | pan v => exact h4.elim

theorem RunsV_prim {f : FuncId} {p : Prim} {args : List V} {v : V} {H' : Heap} (hT : T f = some (.prim p)) (h : primV p args H = some (.ok v, H')) (hk : K v H') : RunsV T (.f f) args H bar K :=
  ⟨1, .ok v, H', fun m hm => by
    obtain ⟨m, rfl⟩ : ∃ i, m = i + 1 := ⟨m - 1, by omega⟩
    simp only [callN, hT]; exact h, v, rfl, hk⟩

end Go.Ev

namespace Go.Ev
section
variable {α β : Type}
theorem Yaa {a : α} {l : List α} : (a :: l)[0]? = some a := List.getElem?_cons_zero
theorem Yab {a : α} {l : List α} {i : Nat} : (a :: l)[i + 1]? = l[i]? := List.getElem?_cons_succ
theorem Yac {f : α → β} {l : List α} {i : Nat} : (l.map f)[i]? = (l[i]?).map f := List.getElem?_map
theorem Yad {a : α} {l : List α} : (a :: l).length = l.length + 1 := List.length_cons
theorem Yae : ([] : List α).length = 0 := List.length_nil
theorem Yaf {a : α} {l m : List α} : (a :: l) ++ m = a :: (l ++ m) := List.cons_append
theorem Yag {l : List α} : [] ++ l = l := List.nil_append l
theorem Yah {l : List α} : l ++ [] = l := List.append_nil l
theorem Yai {a : α} {f : α → β} : (some a).map f = some (f a) := by simp
theorem Yaj {f : α → β} : (none : Option α).map f = none := by simp
theorem Yak {a : α} {f : α → Option β} : (some a).bind f = f a := Option.bind_some a f
theorem Yal {f : α → Option β} : (none : Option α).bind f = none := Option.bind_none f
theorem Yam {a : α} {l : List α} {i : Nat} : (a :: l).take (i + 1) = a :: l.take i := List.take_succ_cons
theorem Yan {l : List α} : l.take 0 = [] := List.take_zero
theorem Yao {a : α} {l : List α} {i : Nat} : (a :: l).drop (i + 1) = l.drop i := List.drop_succ_cons
theorem Yap {l : List α} : l.drop 0 = l := List.drop_zero
theorem Yaq {a b : α} {l : List α} {i : Nat} : (a :: l).set (i + 1) b = a :: l.set i b := List.set_cons_succ
theorem Yar {a b : α} {l : List α} : (a :: l).set 0 b = b :: l := List.set_cons_zero
theorem Yas {a : List α} {l : List (List α)} : (a :: l).flatten = a ++ l.flatten := List.flatten_cons
theorem Yat : ([] : List (List α)).flatten = [] := List.flatten_nil
theorem Yau {a : α} {l : List α} {f : α → β} : (a :: l).map f = f a :: l.map f := List.map_cons
theorem Yav {f : α → β} : ([] : List α).map f = [] := List.map_nil
theorem Yaw : (!true) = false := Bool.not_true
theorem Yax : (!false) = true := Bool.not_false
theorem Yay : (true = false) = False := Bool.true_eq_false
theorem Yaz : (false = true) = False := Bool.false_eq_true
theorem Yba {i : Nat} : ([] : List α).take i = [] := List.take_nil
theorem Ybb {i : Nat} : ([] : List α).drop i = [] := List.drop_nil
end
end Go.Ev
namespace Go.Ev.S20
open Go Go.Ev.S20
set_option maxRecDepth 10000

def nameByte (c : UInt8) : Bool := !(decide ((c.toNat : Int) < 33) || (decide ((c.toNat : Int) > 126) || ((c.toNat : Int) == 47)))
def okName (s : List UInt8) : Bool := s.all nameByte && (s != [] && (decide ((s.length : Int) ≤ 24) && (s != [46] && s != [46,46])))

theorem wrap_ok {n : Int} (h1 : 0 ≤ n) (h2 : n < 9223372036854775808) : IntKind.i64.wrap n = n := IntWalk.i64_in _ (by omega)

theorem take_all_succ {s : List UInt8} {i : Nat} {p : UInt8 → Bool} (h : i < s.length) : (s.take (i + 1)).all p = ((s.take i).all p && p s[i]) := by
  rw [List.take_add_one, List.getElem?_eq_getElem h, List.all_append]; simp

theorem bad_byte {s : List UInt8} {i : Nat} (h : i < s.length) (hb : nameByte s[i] = false) : okName s = false := by
  have : s.all nameByte = false := by
    rw [List.all_eq_false]
    exact ⟨s[i], List.getElem_mem h, by simp [hb]⟩
  simp [okName, this]

theorem wrap_succ {i : Nat} (h : i < 9223372036854775807) : IntKind.i64.wrap ((i : Int) + 1) = ((i + 1 : Nat) : Int) := by
  rw [wrap_ok (by omega) (by omega)]; rfl

theorem name_spec (s : List UInt8) (hs : s.length ≤ 1048576) (H : Heap) (bar : Nat) : RunsV (tabOf EE) (.f 15) [.str s] H bar fun v h => v = .bool (okName s) ∧ h = H := by
  refine RunsV_code low15 (Nat.le_of_ble_eq_true rfl) ?_
  unfold ir15
  ((repeat refine Zcm ?_); refine Zbf (by rfl) ?_; simp -implicitDefEqProofs only [q15_0, Zek, Zcy, Zce, Zej, Zei, Zeh, Zeg, Zex, r_1, Zet, Zer, Zed, Zes, Zeq, r_2, Zev, Zeu, Zee, r_H, Zew, Zdz, Zcw, Zbv, Zdt, Zbw, Zaj, Zct, Zcc, Zaa, Zad, Zac, Zds, Zdu, Zdv, Zeb, Zea, Zcs, Zby, Zcv, Zbz, Zav, Zcb, Zak, Zaw, Zdx, Zau, Zdy, Zca, Zdw, Zai, Zah, Zcx, Zat, Zcr, Zbx, Zcd, Zef, Zcz, Zbb, Zba, Zfa, Zfe, Zfb, Zfc, Zfd, evS, Zeo, Zen, Zep, Zez, Rd.ev, Zbu, Zcj, Zci, Zdc, Zch, Zdd, Zcg, Yai, Yaj, Yak, Yau, Yav, reduceIte, reduceCtorEq, Nat.reduceEqDiff, Nat.reduceAdd, Zbi, Zbs, Zbo, Zbq, Zbr, Zbj, Zbp, Zbn, Zbm, Zbl, Zbk, Zam, Zar, Zaq, Zap, Zao, Zan, Zal, Zay, Zax, Zae, Zec, Zel, Zey, Zem, Blk, Zdj, Zdi, Ret, true_and, and_true, and_self, Yaf, Yag, Yah, Ev.take, Yad, Yae, cond_true, cond_false, Yaw, Yax, Yay, Yaz, if_true, if_false, Zcp, Zcn, Zco, Zdq, Zcq, Zda, Zbc, Zaz, decide_true, decide_false, Option.some.injEq, V.bool.injEq, Zcu, Zag, Yaa, Yab, Yac])
  ((repeat refine Zcm ?_); refine Zbf (by rfl) ?_; simp -implicitDefEqProofs only [q15_1, Zek, Zcy, Zce, Zej, Zei, Zeh, Zeg, Zex, r_1, Zet, Zer, Zed, Zes, Zeq, r_2, Zev, Zeu, Zee, r_H, Zew, Zdz, Zcw, Zbv, Zdt, Zbw, Zaj, Zct, Zcc, Zaa, Zad, Zac, Zds, Zdu, Zdv, Zeb, Zea, Zcs, Zby, Zcv, Zbz, Zav, Zcb, Zak, Zaw, Zdx, Zau, Zdy, Zca, Zdw, Zai, Zah, Zcx, Zat, Zcr, Zbx, Zcd, Zef, Zcz, Zbb, Zba, Zfa, Zfe, Zfb, Zfc, Zfd, evS, Zeo, Zen, Zep, Zez, Rd.ev, Zbu, Zcj, Zci, Zdc, Zch, Zdd, Zcg, Yai, Yaj, Yak, Yau, Yav, reduceIte, reduceCtorEq, Nat.reduceEqDiff, Nat.reduceAdd, Zbi, Zbs, Zbo, Zbq, Zbr, Zbj, Zbp, Zbn, Zbm, Zbl, Zbk, Zam, Zar, Zaq, Zap, Zao, Zan, Zal, Zay, Zax, Zae, Zec, Zel, Zey, Zem, Blk, Zdj, Zdi, Ret, true_and, and_true, and_self, Yaf, Yag, Yah, Ev.take, Yad, Yae, cond_true, cond_false, Yaw, Yax, Yay, Yaz, if_true, if_false, Zcp, Zcn, Zco, Zdq, Zcq, Zda, Zbc, Zaz, decide_true, decide_false, Option.some.injEq, V.bool.injEq, Zcu, Zag, Yaa, Yab, Yac])
  refine WC_block ?_
  refine WC_loop (α := Nat) (fun i σ h => i ≤ s.length ∧ (s.take i).all nameByte = true ∧ Sub [(0, .str s), (3, .int .i64 i)] σ ∧ h = H) (fun i => s.length - i) 0 ⟨by omega, by simp, Sub_cons rfl (Sub_cons rfl Sub_nil), rfl⟩ ?_
  rintro i σ h ⟨hi, hall, hsub, rfl⟩
  refine WC.less hsub ?_
  unfold c15_7
  ((repeat refine Zcm ?_); refine Zbf (by rfl) ?_; simp -implicitDefEqProofs only [q15_2, Zek, Zcy, Zce, Zej, Zei, Zeh, Zeg, Zex, r_1, Zet, Zer, Zed, Zes, Zeq, r_2, Zev, Zeu, Zee, r_H, Zew, Zdz, Zcw, Zbv, Zdt, Zbw, Zaj, Zct, Zcc, Zaa, Zad, Zac, Zds, Zdu, Zdv, Zeb, Zea, Zcs, Zby, Zcv, Zbz, Zav, Zcb, Zak, Zaw, Zdx, Zau, Zdy, Zca, Zdw, Zai, Zah, Zcx, Zat, Zcr, Zbx, Zcd, Zef, Zcz, Zbb, Zba, Zfa, Zfe, Zfb, Zfc, Zfd, evS, Zeo, Zen, Zep, Zez, Rd.ev, Zbu, Zcj, Zci, Zdc, Zch, Zdd, Zcg, Yai, Yaj, Yak, Yau, Yav, reduceIte, reduceCtorEq, Nat.reduceEqDiff, Nat.reduceAdd, Zbi, Zbs, Zbo, Zbq, Zbr, Zbj, Zbp, Zbn, Zbm, Zbl, Zbk, Zam, Zar, Zaq, Zap, Zao, Zan, Zal, Zay, Zax, Zae, Zec, Zel, Zey, Zem, Blk, Zdj, Zdi, Ret, true_and, and_true, and_self, Yaf, Yag, Yah, Ev.take, Yad, Yae, cond_true, cond_false, Yaw, Yax, Yay, Yaz, if_true, if_false, Zcp, Zcn, Zco, Zdq, Zcq, Zda, Zbc, Zaz, decide_true, decide_false, Option.some.injEq, V.bool.injEq, Zcu, Zag, Yaa, Yab, Yac])
  (repeat refine Zcm ?_); refine Zbe (by rfl) (fun hc => ?_) (fun hc => ?_)
  · have hlt : i < s.length := by simpa using hc
    have hg : s[i]? = some s[i] := List.getElem?_eq_getElem hlt
    refine Zbg ?_
    simp -implicitDefEqProofs only [Zek, Zcy, Zce, Zej, Zei, Zeh, Zeg, Zex, r_1, Zet, Zer, Zed, Zes, Zeq, r_2, Zev, Zeu, Zee, r_H, Zew, Zdz, Zcw, Zbv, Zdt, Zbw, Zaj, Zct, Zcc, Zaa, Zad, Zac, Zds, Zdu, Zdv, Zeb, Zea, Zcs, Zby, Zcv, Zbz, Zav, Zcb, Zak, Zaw, Zdx, Zau, Zdy, Zca, Zdw, Zai, Zah, Zcx, Zat, Zcr, Zbx, Zcd, Zef, Zcz, Zbb, Zba, Zfa, Zfe, Zfb, Zfc, Zfd, evS, Zeo, Zen, Zep, Zez, Rd.ev, Zbu, Zcj, Zci, Zdc, Zch, Zdd, Zcg, Yai, Yaj, Yak, Yau, Yav, reduceIte, reduceCtorEq, Nat.reduceEqDiff, Nat.reduceAdd, Zbi, Zbs, Zbo, Zbq, Zbr, Zbj, Zbp, Zbn, Zbm, Zbl, Zbk, Zam, Zar, Zaq, Zap, Zao, Zan, Zal, Zay, Zax, Zae, Zec, Zel, Zey, Zem, Blk, Zdj, Zdi, Ret, true_and, and_true, and_self, Yaf, Yag, Yah, Ev.take, Yad, Yae, cond_true, cond_false, Yaw, Yax, Yay, Yaz, if_true, if_false, Zcp, Zcn, Zco, Zdq, Zcq, Zda, Zbc, Zaz, decide_true, decide_false, Option.some.injEq, V.bool.injEq, Zcu, Zag, Yaa, Yab, Yac]
    (repeat refine Zcm ?_); refine WC_block ?_
    refine Zcm ?_; refine Zbf (by rfl) ?_
    simp -implicitDefEqProofs only [Zek, Zcy, Zce, Zej, Zei, Zeh, Zeg, Zex, r_1, Zet, Zer, Zed, Zes, Zeq, r_2, Zev, Zeu, Zee, r_H, Zew, Zdz, Zcw, Zbv, Zdt, Zbw, Zaj, Zct, Zcc, Zaa, Zad, Zac, Zds, Zdu, Zdv, Zeb, Zea, Zcs, Zby, Zcv, Zbz, Zav, Zcb, Zak, Zaw, Zdx, Zau, Zdy, Zca, Zdw, Zai, Zah, Zcx, Zat, Zcr, Zbx, Zcd, Zef, Zcz, Zbb, Zba, Zfa, Zfe, Zfb, Zfc, Zfd, evS, Zeo, Zen, Zep, Zez, Rd.ev, Zbu, Zcj, Zci, Zdc, Zch, Zdd, Zcg, Yai, Yaj, Yak, Yau, Yav, reduceIte, reduceCtorEq, Nat.reduceEqDiff, Nat.reduceAdd, Zbi, Zbs, Zbo, Zbq, Zbr, Zbj, Zbp, Zbn, Zbm, Zbl, Zbk, Zam, Zar, Zaq, Zap, Zao, Zan, Zal, Zay, Zax, Zae, Zec, Zel, Zey, Zem, Blk, Zdj, Zdi, Ret, true_and, and_true, and_self, Yaf, Yag, Yah, Ev.take, Yad, Yae, cond_true, cond_false, Yaw, Yax, Yay, Yaz, if_true, if_false, Zcp, Zcn, Zco, Zdq, Zcq, Zda, Zbc, Zaz, decide_true, decide_false, Option.some.injEq, V.bool.injEq, Zcu, Zag, Yaa, Yab, Yac, q15_3, Int.natCast_nonneg, Int.toNat_natCast, hg, byteV]
    (repeat' (first | refine Gd_b (fun hgd => ?_) (fun hgd => ?_) | refine Gd_b' (fun hgd => ?_) (fun hgd => ?_)) <;> simp -implicitDefEqProofs only [hgd, Zek, Zcy, Zce, Zej, Zei, Zeh, Zeg, Zex, r_1, Zet, Zer, Zed, Zes, Zeq, r_2, Zev, Zeu, Zee, r_H, Zew, Zdz, Zcw, Zbv, Zdt, Zbw, Zaj, Zct, Zcc, Zaa, Zad, Zac, Zds, Zdu, Zdv, Zeb, Zea, Zcs, Zby, Zcv, Zbz, Zav, Zcb, Zak, Zaw, Zdx, Zau, Zdy, Zca, Zdw, Zai, Zah, Zcx, Zat, Zcr, Zbx, Zcd, Zef, Zcz, Zbb, Zba, Zfa, Zfe, Zfb, Zfc, Zfd, evS, Zeo, Zen, Zep, Zez, Rd.ev, Zbu, Zcj, Zci, Zdc, Zch, Zdd, Zcg, Yai, Yaj, Yak, Yau, Yav, reduceIte, reduceCtorEq, Nat.reduceEqDiff, Nat.reduceAdd, Zbi, Zbs, Zbo, Zbq, Zbr, Zbj, Zbp, Zbn, Zbm, Zbl, Zbk, Zam, Zar, Zaq, Zap, Zao, Zan, Zal, Zay, Zax, Zae, Zec, Zel, Zey, Zem, Blk, Zdj, Zdi, Ret, true_and, and_true, and_self, Yaf, Yag, Yah, Ev.take, Yad, Yae, cond_true, cond_false, Yaw, Yax, Yay, Yaz, if_true, if_false, Zcp, Zcn, Zco, Zdq, Zcq, Zda, Zbc, Zaz, decide_true, decide_false, Option.some.injEq, V.bool.injEq, Zcu, Zag, Yaa, Yab, Yac, Int.natCast_nonneg, Int.toNat_natCast, hg, byteV])
    rename_i hgd'
    · (repeat refine Zcm ?_); refine Zbe (by rfl) (fun hc => ?_) (fun hc => ?_)
      · unfold c15_5
        ((repeat refine Zcm ?_); refine Zbf (by rfl) ?_; simp -implicitDefEqProofs only [q15_4, Zek, Zcy, Zce, Zej, Zei, Zeh, Zeg, Zex, r_1, Zet, Zer, Zed, Zes, Zeq, r_2, Zev, Zeu, Zee, r_H, Zew, Zdz, Zcw, Zbv, Zdt, Zbw, Zaj, Zct, Zcc, Zaa, Zad, Zac, Zds, Zdu, Zdv, Zeb, Zea, Zcs, Zby, Zcv, Zbz, Zav, Zcb, Zak, Zaw, Zdx, Zau, Zdy, Zca, Zdw, Zai, Zah, Zcx, Zat, Zcr, Zbx, Zcd, Zef, Zcz, Zbb, Zba, Zfa, Zfe, Zfb, Zfc, Zfd, evS, Zeo, Zen, Zep, Zez, Rd.ev, Zbu, Zcj, Zci, Zdc, Zch, Zdd, Zcg, Yai, Yaj, Yak, Yau, Yav, reduceIte, reduceCtorEq, Nat.reduceEqDiff, Nat.reduceAdd, Zbi, Zbs, Zbo, Zbq, Zbr, Zbj, Zbp, Zbn, Zbm, Zbl, Zbk, Zam, Zar, Zaq, Zap, Zao, Zan, Zal, Zay, Zax, Zae, Zec, Zel, Zey, Zem, Blk, Zdj, Zdi, Ret, true_and, and_true, and_self, Yaf, Yag, Yah, Ev.take, Yad, Yae, cond_true, cond_false, Yaw, Yax, Yay, Yaz, if_true, if_false, Zcp, Zcn, Zco, Zdq, Zcq, Zda, Zbc, Zaz, decide_true, decide_false, Option.some.injEq, V.bool.injEq, Zcu, Zag, Yaa, Yab, Yac])
        refine WC_ret ?_
        simp -implicitDefEqProofs only [Zek, Zcy, Zce, Zej, Zei, Zeh, Zeg, Zex, r_1, Zet, Zer, Zed, Zes, Zeq, r_2, Zev, Zeu, Zee, r_H, Zew, Zdz, Zcw, Zbv, Zdt, Zbw, Zaj, Zct, Zcc, Zaa, Zad, Zac, Zds, Zdu, Zdv, Zeb, Zea, Zcs, Zby, Zcv, Zbz, Zav, Zcb, Zak, Zaw, Zdx, Zau, Zdy, Zca, Zdw, Zai, Zah, Zcx, Zat, Zcr, Zbx, Zcd, Zef, Zcz, Zbb, Zba, Zfa, Zfe, Zfb, Zfc, Zfd, evS, Zeo, Zen, Zep, Zez, Rd.ev, Zbu, Zcj, Zci, Zdc, Zch, Zdd, Zcg, Yai, Yaj, Yak, Yau, Yav, reduceIte, reduceCtorEq, Nat.reduceEqDiff, Nat.reduceAdd, Zbi, Zbs, Zbo, Zbq, Zbr, Zbj, Zbp, Zbn, Zbm, Zbl, Zbk, Zam, Zar, Zaq, Zap, Zao, Zan, Zal, Zay, Zax, Zae, Zec, Zel, Zey, Zem, Blk, Zdj, Zdi, Ret, true_and, and_true, and_self, Yaf, Yag, Yah, Ev.take, Yad, Yae, cond_true, cond_false, Yaw, Yax, Yay, Yaz, if_true, if_false, Zcp, Zcn, Zco, Zdq, Zcq, Zda, Zbc, Zaz, decide_true, decide_false, Option.some.injEq, V.bool.injEq, Zcu, Zag, Yaa, Yab, Yac]
        rw [bad_byte hlt (by simp only [nameByte, hc, Bool.or_true, Bool.not_true])]
      · refine Zbg ?_
        simp -implicitDefEqProofs only [Zek, Zcy, Zce, Zej, Zei, Zeh, Zeg, Zex, r_1, Zet, Zer, Zed, Zes, Zeq, r_2, Zev, Zeu, Zee, r_H, Zew, Zdz, Zcw, Zbv, Zdt, Zbw, Zaj, Zct, Zcc, Zaa, Zad, Zac, Zds, Zdu, Zdv, Zeb, Zea, Zcs, Zby, Zcv, Zbz, Zav, Zcb, Zak, Zaw, Zdx, Zau, Zdy, Zca, Zdw, Zai, Zah, Zcx, Zat, Zcr, Zbx, Zcd, Zef, Zcz, Zbb, Zba, Zfa, Zfe, Zfb, Zfc, Zfd, evS, Zeo, Zen, Zep, Zez, Rd.ev, Zbu, Zcj, Zci, Zdc, Zch, Zdd, Zcg, Yai, Yaj, Yak, Yau, Yav, reduceIte, reduceCtorEq, Nat.reduceEqDiff, Nat.reduceAdd, Zbi, Zbs, Zbo, Zbq, Zbr, Zbj, Zbp, Zbn, Zbm, Zbl, Zbk, Zam, Zar, Zaq, Zap, Zao, Zan, Zal, Zay, Zax, Zae, Zec, Zel, Zey, Zem, Blk, Zdj, Zdi, Ret, true_and, and_true, and_self, Yaf, Yag, Yah, Ev.take, Yad, Yae, cond_true, cond_false, Yaw, Yax, Yay, Yaz, if_true, if_false, Zcp, Zcn, Zco, Zdq, Zcq, Zda, Zbc, Zaz, decide_true, decide_false, Option.some.injEq, V.bool.injEq, Zcu, Zag, Yaa, Yab, Yac]
        ((repeat refine Zcm ?_); refine Zbf (by rfl) ?_; simp -implicitDefEqProofs only [q15_6, Zek, Zcy, Zce, Zej, Zei, Zeh, Zeg, Zex, r_1, Zet, Zer, Zed, Zes, Zeq, r_2, Zev, Zeu, Zee, r_H, Zew, Zdz, Zcw, Zbv, Zdt, Zbw, Zaj, Zct, Zcc, Zaa, Zad, Zac, Zds, Zdu, Zdv, Zeb, Zea, Zcs, Zby, Zcv, Zbz, Zav, Zcb, Zak, Zaw, Zdx, Zau, Zdy, Zca, Zdw, Zai, Zah, Zcx, Zat, Zcr, Zbx, Zcd, Zef, Zcz, Zbb, Zba, Zfa, Zfe, Zfb, Zfc, Zfd, evS, Zeo, Zen, Zep, Zez, Rd.ev, Zbu, Zcj, Zci, Zdc, Zch, Zdd, Zcg, Yai, Yaj, Yak, Yau, Yav, reduceIte, reduceCtorEq, Nat.reduceEqDiff, Nat.reduceAdd, Zbi, Zbs, Zbo, Zbq, Zbr, Zbj, Zbp, Zbn, Zbm, Zbl, Zbk, Zam, Zar, Zaq, Zap, Zao, Zan, Zal, Zay, Zax, Zae, Zec, Zel, Zey, Zem, Blk, Zdj, Zdi, Ret, true_and, and_true, and_self, Yaf, Yag, Yah, Ev.take, Yad, Yae, cond_true, cond_false, Yaw, Yax, Yay, Yaz, if_true, if_false, Zcp, Zcn, Zco, Zdq, Zcq, Zda, Zbc, Zaz, decide_true, decide_false, Option.some.injEq, V.bool.injEq, Zcu, Zag, Yaa, Yab, Yac])
        refine ⟨i + 1, by omega, by omega, ?_, ?_⟩
        · rw [take_all_succ hlt, hall]
          simp only [nameByte, hgd, hgd', hc]; rfl
        · rw [wrap_succ (by omega)]
          exact Sub_cons rfl (Sub_cons rfl Sub_nil)
    · (repeat refine Zcm ?_); refine Zbe (by rfl) (fun hc => ?_) (fun hc => ?_)
      · unfold c15_5
        ((repeat refine Zcm ?_); refine Zbf (by rfl) ?_; simp -implicitDefEqProofs only [q15_4, Zek, Zcy, Zce, Zej, Zei, Zeh, Zeg, Zex, r_1, Zet, Zer, Zed, Zes, Zeq, r_2, Zev, Zeu, Zee, r_H, Zew, Zdz, Zcw, Zbv, Zdt, Zbw, Zaj, Zct, Zcc, Zaa, Zad, Zac, Zds, Zdu, Zdv, Zeb, Zea, Zcs, Zby, Zcv, Zbz, Zav, Zcb, Zak, Zaw, Zdx, Zau, Zdy, Zca, Zdw, Zai, Zah, Zcx, Zat, Zcr, Zbx, Zcd, Zef, Zcz, Zbb, Zba, Zfa, Zfe, Zfb, Zfc, Zfd, evS, Zeo, Zen, Zep, Zez, Rd.ev, Zbu, Zcj, Zci, Zdc, Zch, Zdd, Zcg, Yai, Yaj, Yak, Yau, Yav, reduceIte, reduceCtorEq, Nat.reduceEqDiff, Nat.reduceAdd, Zbi, Zbs, Zbo, Zbq, Zbr, Zbj, Zbp, Zbn, Zbm, Zbl, Zbk, Zam, Zar, Zaq, Zap, Zao, Zan, Zal, Zay, Zax, Zae, Zec, Zel, Zey, Zem, Blk, Zdj, Zdi, Ret, true_and, and_true, and_self, Yaf, Yag, Yah, Ev.take, Yad, Yae, cond_true, cond_false, Yaw, Yax, Yay, Yaz, if_true, if_false, Zcp, Zcn, Zco, Zdq, Zcq, Zda, Zbc, Zaz, decide_true, decide_false, Option.some.injEq, V.bool.injEq, Zcu, Zag, Yaa, Yab, Yac])
        refine WC_ret ?_
        simp -implicitDefEqProofs only [Zek, Zcy, Zce, Zej, Zei, Zeh, Zeg, Zex, r_1, Zet, Zer, Zed, Zes, Zeq, r_2, Zev, Zeu, Zee, r_H, Zew, Zdz, Zcw, Zbv, Zdt, Zbw, Zaj, Zct, Zcc, Zaa, Zad, Zac, Zds, Zdu, Zdv, Zeb, Zea, Zcs, Zby, Zcv, Zbz, Zav, Zcb, Zak, Zaw, Zdx, Zau, Zdy, Zca, Zdw, Zai, Zah, Zcx, Zat, Zcr, Zbx, Zcd, Zef, Zcz, Zbb, Zba, Zfa, Zfe, Zfb, Zfc, Zfd, evS, Zeo, Zen, Zep, Zez, Rd.ev, Zbu, Zcj, Zci, Zdc, Zch, Zdd, Zcg, Yai, Yaj, Yak, Yau, Yav, reduceIte, reduceCtorEq, Nat.reduceEqDiff, Nat.reduceAdd, Zbi, Zbs, Zbo, Zbq, Zbr, Zbj, Zbp, Zbn, Zbm, Zbl, Zbk, Zam, Zar, Zaq, Zap, Zao, Zan, Zal, Zay, Zax, Zae, Zec, Zel, Zey, Zem, Blk, Zdj, Zdi, Ret, true_and, and_true, and_self, Yaf, Yag, Yah, Ev.take, Yad, Yae, cond_true, cond_false, Yaw, Yax, Yay, Yaz, if_true, if_false, Zcp, Zcn, Zco, Zdq, Zcq, Zda, Zbc, Zaz, decide_true, decide_false, Option.some.injEq, V.bool.injEq, Zcu, Zag, Yaa, Yab, Yac]
        rw [bad_byte hlt (by simp only [nameByte, hgd, Bool.true_or, Bool.or_true, Bool.not_true])]
      · cases hc
    · (repeat refine Zcm ?_); refine Zbe (by rfl) (fun hc => ?_) (fun hc => ?_)
      · unfold c15_5
        ((repeat refine Zcm ?_); refine Zbf (by rfl) ?_; simp -implicitDefEqProofs only [q15_4, Zek, Zcy, Zce, Zej, Zei, Zeh, Zeg, Zex, r_1, Zet, Zer, Zed, Zes, Zeq, r_2, Zev, Zeu, Zee, r_H, Zew, Zdz, Zcw, Zbv, Zdt, Zbw, Zaj, Zct, Zcc, Zaa, Zad, Zac, Zds, Zdu, Zdv, Zeb, Zea, Zcs, Zby, Zcv, Zbz, Zav, Zcb, Zak, Zaw, Zdx, Zau, Zdy, Zca, Zdw, Zai, Zah, Zcx, Zat, Zcr, Zbx, Zcd, Zef, Zcz, Zbb, Zba, Zfa, Zfe, Zfb, Zfc, Zfd, evS, Zeo, Zen, Zep, Zez, Rd.ev, Zbu, Zcj, Zci, Zdc, Zch, Zdd, Zcg, Yai, Yaj, Yak, Yau, Yav, reduceIte, reduceCtorEq, Nat.reduceEqDiff, Nat.reduceAdd, Zbi, Zbs, Zbo, Zbq, Zbr, Zbj, Zbp, Zbn, Zbm, Zbl, Zbk, Zam, Zar, Zaq, Zap, Zao, Zan, Zal, Zay, Zax, Zae, Zec, Zel, Zey, Zem, Blk, Zdj, Zdi, Ret, true_and, and_true, and_self, Yaf, Yag, Yah, Ev.take, Yad, Yae, cond_true, cond_false, Yaw, Yax, Yay, Yaz, if_true, if_false, Zcp, Zcn, Zco, Zdq, Zcq, Zda, Zbc, Zaz, decide_true, decide_false, Option.some.injEq, V.bool.injEq, Zcu, Zag, Yaa, Yab, Yac])
        refine WC_ret ?_
        simp -implicitDefEqProofs only [Zek, Zcy, Zce, Zej, Zei, Zeh, Zeg, Zex, r_1, Zet, Zer, Zed, Zes, Zeq, r_2, Zev, Zeu, Zee, r_H, Zew, Zdz, Zcw, Zbv, Zdt, Zbw, Zaj, Zct, Zcc, Zaa, Zad, Zac, Zds, Zdu, Zdv, Zeb, Zea, Zcs, Zby, Zcv, Zbz, Zav, Zcb, Zak, Zaw, Zdx, Zau, Zdy, Zca, Zdw, Zai, Zah, Zcx, Zat, Zcr, Zbx, Zcd, Zef, Zcz, Zbb, Zba, Zfa, Zfe, Zfb, Zfc, Zfd, evS, Zeo, Zen, Zep, Zez, Rd.ev, Zbu, Zcj, Zci, Zdc, Zch, Zdd, Zcg, Yai, Yaj, Yak, Yau, Yav, reduceIte, reduceCtorEq, Nat.reduceEqDiff, Nat.reduceAdd, Zbi, Zbs, Zbo, Zbq, Zbr, Zbj, Zbp, Zbn, Zbm, Zbl, Zbk, Zam, Zar, Zaq, Zap, Zao, Zan, Zal, Zay, Zax, Zae, Zec, Zel, Zey, Zem, Blk, Zdj, Zdi, Ret, true_and, and_true, and_self, Yaf, Yag, Yah, Ev.take, Yad, Yae, cond_true, cond_false, Yaw, Yax, Yay, Yaz, if_true, if_false, Zcp, Zcn, Zco, Zdq, Zcq, Zda, Zbc, Zaz, decide_true, decide_false, Option.some.injEq, V.bool.injEq, Zcu, Zag, Yaa, Yab, Yac]
        rw [bad_byte hlt (by simp only [nameByte, hgd, Bool.true_or, Bool.or_true, Bool.not_true])]
      · cases hc
  · have hall' : s.all nameByte = true := by
      have : i = s.length := by simp at hc; omega
      rw [this, List.take_length] at hall; exact hall
    refine WC_exit ?_
    simp -implicitDefEqProofs only [Zek, Zcy, Zce, Zej, Zei, Zeh, Zeg, Zex, r_1, Zet, Zer, Zed, Zes, Zeq, r_2, Zev, Zeu, Zee, r_H, Zew, Zdz, Zcw, Zbv, Zdt, Zbw, Zaj, Zct, Zcc, Zaa, Zad, Zac, Zds, Zdu, Zdv, Zeb, Zea, Zcs, Zby, Zcv, Zbz, Zav, Zcb, Zak, Zaw, Zdx, Zau, Zdy, Zca, Zdw, Zai, Zah, Zcx, Zat, Zcr, Zbx, Zcd, Zef, Zcz, Zbb, Zba, Zfa, Zfe, Zfb, Zfc, Zfd, evS, Zeo, Zen, Zep, Zez, Rd.ev, Zbu, Zcj, Zci, Zdc, Zch, Zdd, Zcg, Yai, Yaj, Yak, Yau, Yav, reduceIte, reduceCtorEq, Nat.reduceEqDiff, Nat.reduceAdd, Zbi, Zbs, Zbo, Zbq, Zbr, Zbj, Zbp, Zbn, Zbm, Zbl, Zbk, Zam, Zar, Zaq, Zap, Zao, Zan, Zal, Zay, Zax, Zae, Zec, Zel, Zey, Zem, Blk, Zdj, Zdi, Ret, true_and, and_true, and_self, Yaf, Yag, Yah, Ev.take, Yad, Yae, cond_true, cond_false, Yaw, Yax, Yay, Yaz, if_true, if_false, Zcp, Zcn, Zco, Zdq, Zcq, Zda, Zbc, Zaz, decide_true, decide_false, Option.some.injEq, V.bool.injEq, Zcu, Zag, Yaa, Yab, Yac]
    ((repeat refine Zcm ?_); refine Zbf (by rfl) ?_; simp -implicitDefEqProofs only [q15_8, Zek, Zcy, Zce, Zej, Zei, Zeh, Zeg, Zex, r_1, Zet, Zer, Zed, Zes, Zeq, r_2, Zev, Zeu, Zee, r_H, Zew, Zdz, Zcw, Zbv, Zdt, Zbw, Zaj, Zct, Zcc, Zaa, Zad, Zac, Zds, Zdu, Zdv, Zeb, Zea, Zcs, Zby, Zcv, Zbz, Zav, Zcb, Zak, Zaw, Zdx, Zau, Zdy, Zca, Zdw, Zai, Zah, Zcx, Zat, Zcr, Zbx, Zcd, Zef, Zcz, Zbb, Zba, Zfa, Zfe, Zfb, Zfc, Zfd, evS, Zeo, Zen, Zep, Zez, Rd.ev, Zbu, Zcj, Zci, Zdc, Zch, Zdd, Zcg, Yai, Yaj, Yak, Yau, Yav, reduceIte, reduceCtorEq, Nat.reduceEqDiff, Nat.reduceAdd, Zbi, Zbs, Zbo, Zbq, Zbr, Zbj, Zbp, Zbn, Zbm, Zbl, Zbk, Zam, Zar, Zaq, Zap, Zao, Zan, Zal, Zay, Zax, Zae, Zec, Zel, Zey, Zem, Blk, Zdj, Zdi, Ret, true_and, and_true, and_self, Yaf, Yag, Yah, Ev.take, Yad, Yae, cond_true, cond_false, Yaw, Yax, Yay, Yaz, if_true, if_false, Zcp, Zcn, Zco, Zdq, Zcq, Zda, Zbc, Zaz, decide_true, decide_false, Option.some.injEq, V.bool.injEq, Zcu, Zag, Yaa, Yab, Yac])
    (repeat' (first | refine Gd_b (fun hgd => ?_) (fun hgd => ?_) | refine Gd_b' (fun hgd => ?_) (fun hgd => ?_)) <;> simp -implicitDefEqProofs only [hgd, Zek, Zcy, Zce, Zej, Zei, Zeh, Zeg, Zex, r_1, Zet, Zer, Zed, Zes, Zeq, r_2, Zev, Zeu, Zee, r_H, Zew, Zdz, Zcw, Zbv, Zdt, Zbw, Zaj, Zct, Zcc, Zaa, Zad, Zac, Zds, Zdu, Zdv, Zeb, Zea, Zcs, Zby, Zcv, Zbz, Zav, Zcb, Zak, Zaw, Zdx, Zau, Zdy, Zca, Zdw, Zai, Zah, Zcx, Zat, Zcr, Zbx, Zcd, Zef, Zcz, Zbb, Zba, Zfa, Zfe, Zfb, Zfc, Zfd, evS, Zeo, Zen, Zep, Zez, Rd.ev, Zbu, Zcj, Zci, Zdc, Zch, Zdd, Zcg, Yai, Yaj, Yak, Yau, Yav, reduceIte, reduceCtorEq, Nat.reduceEqDiff, Nat.reduceAdd, Zbi, Zbs, Zbo, Zbq, Zbr, Zbj, Zbp, Zbn, Zbm, Zbl, Zbk, Zam, Zar, Zaq, Zap, Zao, Zan, Zal, Zay, Zax, Zae, Zec, Zel, Zey, Zem, Blk, Zdj, Zdi, Ret, true_and, and_true, and_self, Yaf, Yag, Yah, Ev.take, Yad, Yae, cond_true, cond_false, Yaw, Yax, Yay, Yaz, if_true, if_false, Zcp, Zcn, Zco, Zdq, Zcq, Zda, Zbc, Zaz, decide_true, decide_false, Option.some.injEq, V.bool.injEq, Zcu, Zag, Yaa, Yab, Yac])
    all_goals refine WC_ret ?_
    all_goals simp -implicitDefEqProofs only [Zek, Zcy, Zce, Zej, Zei, Zeh, Zeg, Zex, r_1, Zet, Zer, Zed, Zes, Zeq, r_2, Zev, Zeu, Zee, r_H, Zew, Zdz, Zcw, Zbv, Zdt, Zbw, Zaj, Zct, Zcc, Zaa, Zad, Zac, Zds, Zdu, Zdv, Zeb, Zea, Zcs, Zby, Zcv, Zbz, Zav, Zcb, Zak, Zaw, Zdx, Zau, Zdy, Zca, Zdw, Zai, Zah, Zcx, Zat, Zcr, Zbx, Zcd, Zef, Zcz, Zbb, Zba, Zfa, Zfe, Zfb, Zfc, Zfd, evS, Zeo, Zen, Zep, Zez, Rd.ev, Zbu, Zcj, Zci, Zdc, Zch, Zdd, Zcg, Yai, Yaj, Yak, Yau, Yav, reduceIte, reduceCtorEq, Nat.reduceEqDiff, Nat.reduceAdd, Zbi, Zbs, Zbo, Zbq, Zbr, Zbj, Zbp, Zbn, Zbm, Zbl, Zbk, Zam, Zar, Zaq, Zap, Zao, Zan, Zal, Zay, Zax, Zae, Zec, Zel, Zey, Zem, Blk, Zdj, Zdi, Ret, true_and, and_true, and_self, Yaf, Yag, Yah, Ev.take, Yad, Yae, cond_true, cond_false, Yaw, Yax, Yay, Yaz, if_true, if_false, Zcp, Zcn, Zco, Zdq, Zcq, Zda, Zbc, Zaz, decide_true, decide_false, Option.some.injEq, V.bool.injEq, Zcu, Zag, Yaa, Yab, Yac]
    all_goals simp only [okName, hall', bne, Bool.true_and, Bool.and_true, Bool.false_and, Bool.and_false, *]
end Go.Ev.S20
namespace Go.Ev.S20
open Go Go.Ev
set_option maxRecDepth 10000

theorem o_next0 {T : Tab} {d : Option Nat} {r : List Ins} {σ : Sl} {L : Sl → Heap → Prop} {s : List UInt8} {pos : Nat} :
    Fin T 0 d r σ L [.siter s pos] (some (.next (.c (.it 0)))) = Fin2 T 0 d r σ L (if pos < s.length then some (.tup [.bool true, .int .i64 pos, .int .i32 (Utf8.decode ⟨s.toArray⟩ pos).1], [.siter s (pos + (Utf8.decode ⟨s.toArray⟩ pos).2)]) else some (.tup [.bool false], [.siter s pos])) := rfl

theorem o_eqb {T : Tab} {bar : Nat} {d : Option Nat} {r : List Ins} {σ : Sl} {H : Heap} {L : Sl → Heap → Prop} {n a b : Bool} : Fin T bar d r σ L H (some (.eqx .b n (.c (.bool a)) (.c (.bool b)))) = WRs T bar r (Zep σ d (.bool ((a == b) != n))) H L := rfl

theorem dec_lo {s : List UInt8} {i : Nat} (h : i < s.length) (ha : s[i].toNat < 128) : Utf8.decode ⟨s.toArray⟩ i = (s[i].toNat, 1) := Go.decode_ascii ⟨s.toArray⟩ i (by simpa [ByteArray.size] using h) ha
theorem dec_hi {s : List UInt8} {i : Nat} (h : i < s.length) (ha : 128 ≤ s[i].toNat) : 128 ≤ (Utf8.decode ⟨s.toArray⟩ i).1 := (Go.decode_high ⟨s.toArray⟩ i (by simpa [ByteArray.size] using h) ha).1

/-- What a test of runes says of a byte. -/
def noneB (p : Int → Bool) (s : List UInt8) : Bool := s.all fun b => !p b.toNat

theorem indexFunc_spec (g : FuncId) (p : Int → Bool) (hg : ∀ (c : Int) H bar, RunsV (tabOf EE) (.f g) [.int .i32 c] H bar fun v h => v = .bool (p c) ∧ h = H) (hp : ∀ c, 128 ≤ c → p c = true) (s : List UInt8) (hs : s.length ≤ 1048576) (H : Heap) (bar : Nat) :
    RunsV (tabOf EE) (.f 61) [.str s, .fn (.func g) [] [], .bool true] H bar fun v h => (∃ n : Int, v = .int .i64 n ∧ decide (n < 0) = noneB p s) ∧ h = H := by
  refine RunsV_quiet low61 (Nat.le_of_ble_eq_true rfl) rfl rfl rfl ?_
  unfold ir61
  ((repeat refine Zcm ?_); refine Zbf (by rfl) ?_; simp -implicitDefEqProofs only [q61_0, Zek, Zcy, Zce, Zej, Zei, Zeh, Zeg, Zex, r_1, Zet, Zer, Zed, Zes, Zeq, r_2, Zev, Zeu, Zee, r_H, Zew, Zdz, Zcw, Zbv, Zdt, Zbw, Zaj, Zct, Zcc, Zaa, Zad, Zac, Zds, Zdu, Zdv, Zeb, Zea, Zcs, Zby, Zcv, Zbz, Zav, Zcb, Zak, Zaw, Zdx, Zau, Zdy, Zca, Zdw, Zai, Zah, Zcx, Zat, Zcr, Zbx, Zcd, Zef, Zcz, Zbb, Zba, Zfa, Zfe, Zfb, Zfc, Zfd, evS, Zeo, Zen, Zep, Zez, Rd.ev, Zbu, Zcj, Zci, Zdc, Zch, Zdd, Zcg, Yai, Yaj, Yak, Yau, Yav, reduceIte, reduceCtorEq, Nat.reduceEqDiff, Nat.reduceAdd, Zbi, Zbs, Zbo, Zbq, Zbr, Zbj, Zbp, Zbn, Zbm, Zbl, Zbk, Zam, Zar, Zaq, Zap, Zao, Zan, Zal, Zay, Zax, Zae, Zec, Zel, Zey, Zem, Blk, Zdj, Zdi, Ret, true_and, and_true, and_self, Yaf, Yag, Yah, Ev.take, Yad, Yae, cond_true, cond_false, Yaw, Yax, Yay, Yaz, if_true, if_false, Zcp, Zcn, Zco, Zdq, Zcq, Zda, Zbc, Zaz, decide_true, decide_false, Option.some.injEq, V.bool.injEq, Zcu, Zag, Yaa, Yab, Yac])
  ((repeat refine Zcm ?_); refine Zbf (by rfl) ?_; simp -implicitDefEqProofs only [q61_1, Zek, Zcy, Zce, Zej, Zei, Zeh, Zeg, Zex, r_1, Zet, Zer, Zed, Zes, Zeq, r_2, Zev, Zeu, Zee, r_H, Zew, Zdz, Zcw, Zbv, Zdt, Zbw, Zaj, Zct, Zcc, Zaa, Zad, Zac, Zds, Zdu, Zdv, Zeb, Zea, Zcs, Zby, Zcv, Zbz, Zav, Zcb, Zak, Zaw, Zdx, Zau, Zdy, Zca, Zdw, Zai, Zah, Zcx, Zat, Zcr, Zbx, Zcd, Zef, Zcz, Zbb, Zba, Zfa, Zfe, Zfb, Zfc, Zfd, evS, Zeo, Zen, Zep, Zez, Rd.ev, Zbu, Zcj, Zci, Zdc, Zch, Zdd, Zcg, Yai, Yaj, Yak, Yau, Yav, reduceIte, reduceCtorEq, Nat.reduceEqDiff, Nat.reduceAdd, Zbi, Zbs, Zbo, Zbq, Zbr, Zbj, Zbp, Zbn, Zbm, Zbl, Zbk, Zam, Zar, Zaq, Zap, Zao, Zan, Zal, Zay, Zax, Zae, Zec, Zel, Zey, Zem, Blk, Zdj, Zdi, Ret, true_and, and_true, and_self, Yaf, Yag, Yah, Ev.take, Yad, Yae, cond_true, cond_false, Yaw, Yax, Yay, Yaz, if_true, if_false, Zcp, Zcn, Zco, Zdq, Zcq, Zda, Zbc, Zaz, decide_true, decide_false, Option.some.injEq, V.bool.injEq, Zcu, Zag, Yaa, Yab, Yac])
  refine WC_block ?_
  refine WC_loop (α := Nat) (fun i σ h => i ≤ s.length ∧ noneB p (s.take i) = true ∧ Sub [(1, .fn (.func g) [] []), (2, .bool true), (10, .it 0)] σ ∧ h = [.siter s i]) (fun i => s.length - i) 0 ⟨by omega, by simp [noneB], Sub_cons rfl (Sub_cons rfl (Sub_cons rfl Sub_nil)), rfl⟩ ?_
  rintro i σ h ⟨hi, hall, hsub, rfl⟩
  refine WC.less hsub ?_
  unfold c61_7
  by_cases hlt : i < s.length
  · have hsi : s[i]? = some s[i] := List.getElem?_eq_getElem hlt
    (repeat refine Zcm ?_); refine Zbf (by rfl) ?_
    simp -implicitDefEqProofs only [Zek, Zcy, Zce, Zej, Zei, Zeh, Zeg, Zex, r_1, Zet, Zer, Zed, Zes, Zeq, r_2, Zev, Zeu, Zee, r_H, Zew, Zdz, Zcw, Zbv, Zdt, Zbw, Zaj, Zct, Zcc, Zaa, Zad, Zac, Zds, Zdu, Zdv, Zeb, Zea, Zcs, Zby, Zcv, Zbz, Zav, Zcb, Zak, Zaw, Zdx, Zau, Zdy, Zca, Zdw, Zai, Zah, Zcx, Zat, Zcr, Zbx, Zcd, Zef, Zcz, Zbb, Zba, Zfa, Zfe, Zfb, Zfc, Zfd, evS, Zeo, Zen, Zep, Zez, Rd.ev, Zbu, Zcj, Zci, Zdc, Zch, Zdd, Zcg, Yai, Yaj, Yak, Yau, Yav, reduceIte, reduceCtorEq, Nat.reduceEqDiff, Nat.reduceAdd, Zbi, Zbs, Zbo, Zbq, Zbr, Zbj, Zbp, Zbn, Zbm, Zbl, Zbk, Zam, Zar, Zaq, Zap, Zao, Zan, Zal, Zay, Zax, Zae, Zec, Zel, Zey, Zem, Blk, Zdj, Zdi, Ret, true_and, and_true, and_self, Yaf, Yag, Yah, Ev.take, Yad, Yae, cond_true, cond_false, Yaw, Yax, Yay, Yaz, if_true, if_false, Zcp, Zcn, Zco, Zdq, Zcq, Zda, Zbc, Zaz, decide_true, decide_false, Option.some.injEq, V.bool.injEq, Zcu, Zag, Yaa, Yab, Yac, q61_2, o_next0, hlt, List.getElem?_cons_zero, List.getElem?_cons_succ]
    (repeat refine Zcm ?_); refine Zbe (by rfl) (fun hc => ?_) (fun hc => ?_)
    · (repeat refine Zcm ?_); refine Zbg ?_; simp -implicitDefEqProofs only [Zem, Blk, Zdj, Zdi, Ret, reduceIte, Nat.reduceEqDiff, if_true, if_false, reduceCtorEq, true_and, and_true]
      refine WC_block ?_
      ((repeat refine Zcm ?_); refine Zbf (by rfl) ?_; simp -implicitDefEqProofs only [q61_3, Zek, Zcy, Zce, Zej, Zei, Zeh, Zeg, Zex, r_1, Zet, Zer, Zed, Zes, Zeq, r_2, Zev, Zeu, Zee, r_H, Zew, Zdz, Zcw, Zbv, Zdt, Zbw, Zaj, Zct, Zcc, Zaa, Zad, Zac, Zds, Zdu, Zdv, Zeb, Zea, Zcs, Zby, Zcv, Zbz, Zav, Zcb, Zak, Zaw, Zdx, Zau, Zdy, Zca, Zdw, Zai, Zah, Zcx, Zat, Zcr, Zbx, Zcd, Zef, Zcz, Zbb, Zba, Zfa, Zfe, Zfb, Zfc, Zfd, evS, Zeo, Zen, Zep, Zez, Rd.ev, Zbu, Zcj, Zci, Zdc, Zch, Zdd, Zcg, Yai, Yaj, Yak, Yau, Yav, reduceIte, reduceCtorEq, Nat.reduceEqDiff, Nat.reduceAdd, Zbi, Zbs, Zbo, Zbq, Zbr, Zbj, Zbp, Zbn, Zbm, Zbl, Zbk, Zam, Zar, Zaq, Zap, Zao, Zan, Zal, Zay, Zax, Zae, Zec, Zel, Zey, Zem, Blk, Zdj, Zdi, Ret, true_and, and_true, and_self, Yaf, Yag, Yah, Ev.take, Yad, Yae, cond_true, cond_false, Yaw, Yax, Yay, Yaz, if_true, if_false, Zcp, Zcn, Zco, Zdq, Zcq, Zda, Zbc, Zaz, decide_true, decide_false, Option.some.injEq, V.bool.injEq, Zcu, Zag, Yaa, Yab, Yac])
      ((repeat refine Zcm ?_); refine Zbf (by rfl) ?_; simp -implicitDefEqProofs only [q61_4, Zek, Zcy, Zce, Zej, Zei, Zeh, Zeg, Zex, r_1, Zet, Zer, Zed, Zes, Zeq, r_2, Zev, Zeu, Zee, r_H, Zew, Zdz, Zcw, Zbv, Zdt, Zbw, Zaj, Zct, Zcc, Zaa, Zad, Zac, Zds, Zdu, Zdv, Zeb, Zea, Zcs, Zby, Zcv, Zbz, Zav, Zcb, Zak, Zaw, Zdx, Zau, Zdy, Zca, Zdw, Zai, Zah, Zcx, Zat, Zcr, Zbx, Zcd, Zef, Zcz, Zbb, Zba, Zfa, Zfe, Zfb, Zfc, Zfd, evS, Zeo, Zen, Zep, Zez, Rd.ev, Zbu, Zcj, Zci, Zdc, Zch, Zdd, Zcg, Yai, Yaj, Yak, Yau, Yav, reduceIte, reduceCtorEq, Nat.reduceEqDiff, Nat.reduceAdd, Zbi, Zbs, Zbo, Zbq, Zbr, Zbj, Zbp, Zbn, Zbm, Zbl, Zbk, Zam, Zar, Zaq, Zap, Zao, Zan, Zal, Zay, Zax, Zae, Zec, Zel, Zey, Zem, Blk, Zdj, Zdi, Ret, true_and, and_true, and_self, Yaf, Yag, Yah, Ev.take, Yad, Yae, cond_true, cond_false, Yaw, Yax, Yay, Yaz, if_true, if_false, Zcp, Zcn, Zco, Zdq, Zcq, Zda, Zbc, Zaz, decide_true, decide_false, Option.some.injEq, V.bool.injEq, Zcu, Zag, Yaa, Yab, Yac])
      refine RunsV.mono (hg _ _ _) ?_
      rintro _ _ ⟨rfl, rfl⟩
      simp -implicitDefEqProofs only [Zek, Zcy, Zce, Zej, Zei, Zeh, Zeg, Zex, r_1, Zet, Zer, Zed, Zes, Zeq, r_2, Zev, Zeu, Zee, r_H, Zew, Zdz, Zcw, Zbv, Zdt, Zbw, Zaj, Zct, Zcc, Zaa, Zad, Zac, Zds, Zdu, Zdv, Zeb, Zea, Zcs, Zby, Zcv, Zbz, Zav, Zcb, Zak, Zaw, Zdx, Zau, Zdy, Zca, Zdw, Zai, Zah, Zcx, Zat, Zcr, Zbx, Zcd, Zef, Zcz, Zbb, Zba, Zfa, Zfe, Zfb, Zfc, Zfd, evS, Zeo, Zen, Zep, Zez, Rd.ev, Zbu, Zcj, Zci, Zdc, Zch, Zdd, Zcg, Yai, Yaj, Yak, Yau, Yav, reduceIte, reduceCtorEq, Nat.reduceEqDiff, Nat.reduceAdd, Zbi, Zbs, Zbo, Zbq, Zbr, Zbj, Zbp, Zbn, Zbm, Zbl, Zbk, Zam, Zar, Zaq, Zap, Zao, Zan, Zal, Zay, Zax, Zae, Zec, Zel, Zey, Zem, Blk, Zdj, Zdi, Ret, true_and, and_true, and_self, Yaf, Yag, Yah, Ev.take, Yad, Yae, cond_true, cond_false, Yaw, Yax, Yay, Yaz, if_true, if_false, Zcp, Zcn, Zco, Zdq, Zcq, Zda, Zbc, Zaz, decide_true, decide_false, Option.some.injEq, V.bool.injEq, Zcu, Zag, Yaa, Yab, Yac, o_eqb]
      (repeat refine Zcm ?_); refine Zbe (by rfl) (fun hc => ?_) (fun hc => ?_)
      · have hpc : p (Utf8.decode ⟨s.toArray⟩ i).1 = true := by simpa using hc
        unfold c61_6
        ((repeat refine Zcm ?_); refine Zbf (by rfl) ?_; simp -implicitDefEqProofs only [q61_5, Zek, Zcy, Zce, Zej, Zei, Zeh, Zeg, Zex, r_1, Zet, Zer, Zed, Zes, Zeq, r_2, Zev, Zeu, Zee, r_H, Zew, Zdz, Zcw, Zbv, Zdt, Zbw, Zaj, Zct, Zcc, Zaa, Zad, Zac, Zds, Zdu, Zdv, Zeb, Zea, Zcs, Zby, Zcv, Zbz, Zav, Zcb, Zak, Zaw, Zdx, Zau, Zdy, Zca, Zdw, Zai, Zah, Zcx, Zat, Zcr, Zbx, Zcd, Zef, Zcz, Zbb, Zba, Zfa, Zfe, Zfb, Zfc, Zfd, evS, Zeo, Zen, Zep, Zez, Rd.ev, Zbu, Zcj, Zci, Zdc, Zch, Zdd, Zcg, Yai, Yaj, Yak, Yau, Yav, reduceIte, reduceCtorEq, Nat.reduceEqDiff, Nat.reduceAdd, Zbi, Zbs, Zbo, Zbq, Zbr, Zbj, Zbp, Zbn, Zbm, Zbl, Zbk, Zam, Zar, Zaq, Zap, Zao, Zan, Zal, Zay, Zax, Zae, Zec, Zel, Zey, Zem, Blk, Zdj, Zdi, Ret, true_and, and_true, and_self, Yaf, Yag, Yah, Ev.take, Yad, Yae, cond_true, cond_false, Yaw, Yax, Yay, Yaz, if_true, if_false, Zcp, Zcn, Zco, Zdq, Zcq, Zda, Zbc, Zaz, decide_true, decide_false, Option.some.injEq, V.bool.injEq, Zcu, Zag, Yaa, Yab, Yac])
        refine WC_ret ?_
        simp -implicitDefEqProofs only [Zek, Zcy, Zce, Zej, Zei, Zeh, Zeg, Zex, r_1, Zet, Zer, Zed, Zes, Zeq, r_2, Zev, Zeu, Zee, r_H, Zew, Zdz, Zcw, Zbv, Zdt, Zbw, Zaj, Zct, Zcc, Zaa, Zad, Zac, Zds, Zdu, Zdv, Zeb, Zea, Zcs, Zby, Zcv, Zbz, Zav, Zcb, Zak, Zaw, Zdx, Zau, Zdy, Zca, Zdw, Zai, Zah, Zcx, Zat, Zcr, Zbx, Zcd, Zef, Zcz, Zbb, Zba, Zfa, Zfe, Zfb, Zfc, Zfd, evS, Zeo, Zen, Zep, Zez, Rd.ev, Zbu, Zcj, Zci, Zdc, Zch, Zdd, Zcg, Yai, Yaj, Yak, Yau, Yav, reduceIte, reduceCtorEq, Nat.reduceEqDiff, Nat.reduceAdd, Zbi, Zbs, Zbo, Zbq, Zbr, Zbj, Zbp, Zbn, Zbm, Zbl, Zbk, Zam, Zar, Zaq, Zap, Zao, Zan, Zal, Zay, Zax, Zae, Zec, Zel, Zey, Zem, Blk, Zdj, Zdi, Ret, true_and, and_true, and_self, Yaf, Yag, Yah, Ev.take, Yad, Yae, cond_true, cond_false, Yaw, Yax, Yay, Yaz, if_true, if_false, Zcp, Zcn, Zco, Zdq, Zcq, Zda, Zbc, Zaz, decide_true, decide_false, Option.some.injEq, V.bool.injEq, Zcu, Zag, Yaa, Yab, Yac]
        refine ⟨_, rfl, rfl, _, rfl, ?_⟩
        have : p s[i].toNat = true := by
          by_cases hb : s[i].toNat < 128
          · rw [dec_lo hlt hb] at hpc; exact hpc
          · exact hp _ (by omega)
        have h2 : noneB p s = false := by
          unfold noneB
          rw [List.all_eq_false]
          exact ⟨s[i], List.getElem_mem hlt, by simp [this]⟩
        rw [h2]; simp
      · have hpc : p (Utf8.decode ⟨s.toArray⟩ i).1 = false := by simpa using hc
        have hb : s[i].toNat < 128 := by
          apply Classical.byContradiction
          intro hb
          rw [hp _ (by have := dec_hi hlt (by omega); omega)] at hpc; cases hpc
        rw [dec_lo hlt hb] at hpc
        refine Zbg ?_
        simp -implicitDefEqProofs only [Zek, Zcy, Zce, Zej, Zei, Zeh, Zeg, Zex, r_1, Zet, Zer, Zed, Zes, Zeq, r_2, Zev, Zeu, Zee, r_H, Zew, Zdz, Zcw, Zbv, Zdt, Zbw, Zaj, Zct, Zcc, Zaa, Zad, Zac, Zds, Zdu, Zdv, Zeb, Zea, Zcs, Zby, Zcv, Zbz, Zav, Zcb, Zak, Zaw, Zdx, Zau, Zdy, Zca, Zdw, Zai, Zah, Zcx, Zat, Zcr, Zbx, Zcd, Zef, Zcz, Zbb, Zba, Zfa, Zfe, Zfb, Zfc, Zfd, evS, Zeo, Zen, Zep, Zez, Rd.ev, Zbu, Zcj, Zci, Zdc, Zch, Zdd, Zcg, Yai, Yaj, Yak, Yau, Yav, reduceIte, reduceCtorEq, Nat.reduceEqDiff, Nat.reduceAdd, Zbi, Zbs, Zbo, Zbq, Zbr, Zbj, Zbp, Zbn, Zbm, Zbl, Zbk, Zam, Zar, Zaq, Zap, Zao, Zan, Zal, Zay, Zax, Zae, Zec, Zel, Zey, Zem, Blk, Zdj, Zdi, Ret, true_and, and_true, and_self, Yaf, Yag, Yah, Ev.take, Yad, Yae, cond_true, cond_false, Yaw, Yax, Yay, Yaz, if_true, if_false, Zcp, Zcn, Zco, Zdq, Zcq, Zda, Zbc, Zaz, decide_true, decide_false, Option.some.injEq, V.bool.injEq, Zcu, Zag, Yaa, Yab, Yac, dec_lo hlt hb]
        refine ⟨i + 1, by omega, by omega, ?_, Sub_cons rfl (Sub_cons rfl (Sub_cons rfl Sub_nil)), rfl⟩
        unfold noneB at hall ⊢
        rw [take_all_succ hlt, hall, hpc]; rfl
    · cases hc
  · have hi' : i = s.length := by omega
    (repeat refine Zcm ?_); refine Zbf (by rfl) ?_
    simp -implicitDefEqProofs only [Zek, Zcy, Zce, Zej, Zei, Zeh, Zeg, Zex, r_1, Zet, Zer, Zed, Zes, Zeq, r_2, Zev, Zeu, Zee, r_H, Zew, Zdz, Zcw, Zbv, Zdt, Zbw, Zaj, Zct, Zcc, Zaa, Zad, Zac, Zds, Zdu, Zdv, Zeb, Zea, Zcs, Zby, Zcv, Zbz, Zav, Zcb, Zak, Zaw, Zdx, Zau, Zdy, Zca, Zdw, Zai, Zah, Zcx, Zat, Zcr, Zbx, Zcd, Zef, Zcz, Zbb, Zba, Zfa, Zfe, Zfb, Zfc, Zfd, evS, Zeo, Zen, Zep, Zez, Rd.ev, Zbu, Zcj, Zci, Zdc, Zch, Zdd, Zcg, Yai, Yaj, Yak, Yau, Yav, reduceIte, reduceCtorEq, Nat.reduceEqDiff, Nat.reduceAdd, Zbi, Zbs, Zbo, Zbq, Zbr, Zbj, Zbp, Zbn, Zbm, Zbl, Zbk, Zam, Zar, Zaq, Zap, Zao, Zan, Zal, Zay, Zax, Zae, Zec, Zel, Zey, Zem, Blk, Zdj, Zdi, Ret, true_and, and_true, and_self, Yaf, Yag, Yah, Ev.take, Yad, Yae, cond_true, cond_false, Yaw, Yax, Yay, Yaz, if_true, if_false, Zcp, Zcn, Zco, Zdq, Zcq, Zda, Zbc, Zaz, decide_true, decide_false, Option.some.injEq, V.bool.injEq, Zcu, Zag, Yaa, Yab, Yac, q61_2, o_next0, hlt, List.getElem?_cons_zero, List.getElem?_cons_succ]
    (repeat refine Zcm ?_); refine Zbe (by rfl) (fun hc => ?_) (fun hc => ?_)
    · cases hc
    · refine WC_exit ?_
      simp -implicitDefEqProofs only [Zek, Zcy, Zce, Zej, Zei, Zeh, Zeg, Zex, r_1, Zet, Zer, Zed, Zes, Zeq, r_2, Zev, Zeu, Zee, r_H, Zew, Zdz, Zcw, Zbv, Zdt, Zbw, Zaj, Zct, Zcc, Zaa, Zad, Zac, Zds, Zdu, Zdv, Zeb, Zea, Zcs, Zby, Zcv, Zbz, Zav, Zcb, Zak, Zaw, Zdx, Zau, Zdy, Zca, Zdw, Zai, Zah, Zcx, Zat, Zcr, Zbx, Zcd, Zef, Zcz, Zbb, Zba, Zfa, Zfe, Zfb, Zfc, Zfd, evS, Zeo, Zen, Zep, Zez, Rd.ev, Zbu, Zcj, Zci, Zdc, Zch, Zdd, Zcg, Yai, Yaj, Yak, Yau, Yav, reduceIte, reduceCtorEq, Nat.reduceEqDiff, Nat.reduceAdd, Zbi, Zbs, Zbo, Zbq, Zbr, Zbj, Zbp, Zbn, Zbm, Zbl, Zbk, Zam, Zar, Zaq, Zap, Zao, Zan, Zal, Zay, Zax, Zae, Zec, Zel, Zey, Zem, Blk, Zdj, Zdi, Ret, true_and, and_true, and_self, Yaf, Yag, Yah, Ev.take, Yad, Yae, cond_true, cond_false, Yaw, Yax, Yay, Yaz, if_true, if_false, Zcp, Zcn, Zco, Zdq, Zcq, Zda, Zbc, Zaz, decide_true, decide_false, Option.some.injEq, V.bool.injEq, Zcu, Zag, Yaa, Yab, Yac]
      ((repeat refine Zcm ?_); refine Zbf (by rfl) ?_; simp -implicitDefEqProofs only [q61_8, Zek, Zcy, Zce, Zej, Zei, Zeh, Zeg, Zex, r_1, Zet, Zer, Zed, Zes, Zeq, r_2, Zev, Zeu, Zee, r_H, Zew, Zdz, Zcw, Zbv, Zdt, Zbw, Zaj, Zct, Zcc, Zaa, Zad, Zac, Zds, Zdu, Zdv, Zeb, Zea, Zcs, Zby, Zcv, Zbz, Zav, Zcb, Zak, Zaw, Zdx, Zau, Zdy, Zca, Zdw, Zai, Zah, Zcx, Zat, Zcr, Zbx, Zcd, Zef, Zcz, Zbb, Zba, Zfa, Zfe, Zfb, Zfc, Zfd, evS, Zeo, Zen, Zep, Zez, Rd.ev, Zbu, Zcj, Zci, Zdc, Zch, Zdd, Zcg, Yai, Yaj, Yak, Yau, Yav, reduceIte, reduceCtorEq, Nat.reduceEqDiff, Nat.reduceAdd, Zbi, Zbs, Zbo, Zbq, Zbr, Zbj, Zbp, Zbn, Zbm, Zbl, Zbk, Zam, Zar, Zaq, Zap, Zao, Zan, Zal, Zay, Zax, Zae, Zec, Zel, Zey, Zem, Blk, Zdj, Zdi, Ret, true_and, and_true, and_self, Yaf, Yag, Yah, Ev.take, Yad, Yae, cond_true, cond_false, Yaw, Yax, Yay, Yaz, if_true, if_false, Zcp, Zcn, Zco, Zdq, Zcq, Zda, Zbc, Zaz, decide_true, decide_false, Option.some.injEq, V.bool.injEq, Zcu, Zag, Yaa, Yab, Yac])
      refine WC_ret ?_
      simp -implicitDefEqProofs only [Zek, Zcy, Zce, Zej, Zei, Zeh, Zeg, Zex, r_1, Zet, Zer, Zed, Zes, Zeq, r_2, Zev, Zeu, Zee, r_H, Zew, Zdz, Zcw, Zbv, Zdt, Zbw, Zaj, Zct, Zcc, Zaa, Zad, Zac, Zds, Zdu, Zdv, Zeb, Zea, Zcs, Zby, Zcv, Zbz, Zav, Zcb, Zak, Zaw, Zdx, Zau, Zdy, Zca, Zdw, Zai, Zah, Zcx, Zat, Zcr, Zbx, Zcd, Zef, Zcz, Zbb, Zba, Zfa, Zfe, Zfb, Zfc, Zfd, evS, Zeo, Zen, Zep, Zez, Rd.ev, Zbu, Zcj, Zci, Zdc, Zch, Zdd, Zcg, Yai, Yaj, Yak, Yau, Yav, reduceIte, reduceCtorEq, Nat.reduceEqDiff, Nat.reduceAdd, Zbi, Zbs, Zbo, Zbq, Zbr, Zbj, Zbp, Zbn, Zbm, Zbl, Zbk, Zam, Zar, Zaq, Zap, Zao, Zan, Zal, Zay, Zax, Zae, Zec, Zel, Zey, Zem, Blk, Zdj, Zdi, Ret, true_and, and_true, and_self, Yaf, Yag, Yah, Ev.take, Yad, Yae, cond_true, cond_false, Yaw, Yax, Yay, Yaz, if_true, if_false, Zcp, Zcn, Zco, Zdq, Zcq, Zda, Zbc, Zaz, decide_true, decide_false, Option.some.injEq, V.bool.injEq, Zcu, Zag, Yaa, Yab, Yac]
      refine ⟨_, rfl, rfl, _, rfl, ?_⟩
      rw [hi', List.take_length] at hall
      rw [hall]; rfl

theorem strIndexFunc_spec (g : FuncId) (p : Int → Bool) (hg : ∀ (c : Int) H bar, RunsV (tabOf EE) (.f g) [.int .i32 c] H bar fun v h => v = .bool (p c) ∧ h = H) (hp : ∀ c, 128 ≤ c → p c = true) (s : List UInt8) (hs : s.length ≤ 1048576) (H : Heap) (bar : Nat) :
    RunsV (tabOf EE) (.f 28) [.str s, .fn (.func g) [] []] H bar fun v h => (∃ n : Int, v = .int .i64 n ∧ decide (n < 0) = noneB p s) ∧ h = H := by
  refine RunsV_code low28 (Nat.le_of_ble_eq_true rfl) ?_
  unfold ir28
  ((repeat refine Zcm ?_); refine Zbf (by rfl) ?_; simp -implicitDefEqProofs only [q28_0, Zek, Zcy, Zce, Zej, Zei, Zeh, Zeg, Zex, r_1, Zet, Zer, Zed, Zes, Zeq, r_2, Zev, Zeu, Zee, r_H, Zew, Zdz, Zcw, Zbv, Zdt, Zbw, Zaj, Zct, Zcc, Zaa, Zad, Zac, Zds, Zdu, Zdv, Zeb, Zea, Zcs, Zby, Zcv, Zbz, Zav, Zcb, Zak, Zaw, Zdx, Zau, Zdy, Zca, Zdw, Zai, Zah, Zcx, Zat, Zcr, Zbx, Zcd, Zef, Zcz, Zbb, Zba, Zfa, Zfe, Zfb, Zfc, Zfd, evS, Zeo, Zen, Zep, Zez, Rd.ev, Zbu, Zcj, Zci, Zdc, Zch, Zdd, Zcg, Yai, Yaj, Yak, Yau, Yav, reduceIte, reduceCtorEq, Nat.reduceEqDiff, Nat.reduceAdd, Zbi, Zbs, Zbo, Zbq, Zbr, Zbj, Zbp, Zbn, Zbm, Zbl, Zbk, Zam, Zar, Zaq, Zap, Zao, Zan, Zal, Zay, Zax, Zae, Zec, Zel, Zey, Zem, Blk, Zdj, Zdi, Ret, true_and, and_true, and_self, Yaf, Yag, Yah, Ev.take, Yad, Yae, cond_true, cond_false, Yaw, Yax, Yay, Yaz, if_true, if_false, Zcp, Zcn, Zco, Zdq, Zcq, Zda, Zbc, Zaz, decide_true, decide_false, Option.some.injEq, V.bool.injEq, Zcu, Zag, Yaa, Yab, Yac])
  ((repeat refine Zcm ?_); refine Zbf (by rfl) ?_; simp -implicitDefEqProofs only [q28_1, Zek, Zcy, Zce, Zej, Zei, Zeh, Zeg, Zex, r_1, Zet, Zer, Zed, Zes, Zeq, r_2, Zev, Zeu, Zee, r_H, Zew, Zdz, Zcw, Zbv, Zdt, Zbw, Zaj, Zct, Zcc, Zaa, Zad, Zac, Zds, Zdu, Zdv, Zeb, Zea, Zcs, Zby, Zcv, Zbz, Zav, Zcb, Zak, Zaw, Zdx, Zau, Zdy, Zca, Zdw, Zai, Zah, Zcx, Zat, Zcr, Zbx, Zcd, Zef, Zcz, Zbb, Zba, Zfa, Zfe, Zfb, Zfc, Zfd, evS, Zeo, Zen, Zep, Zez, Rd.ev, Zbu, Zcj, Zci, Zdc, Zch, Zdd, Zcg, Yai, Yaj, Yak, Yau, Yav, reduceIte, reduceCtorEq, Nat.reduceEqDiff, Nat.reduceAdd, Zbi, Zbs, Zbo, Zbq, Zbr, Zbj, Zbp, Zbn, Zbm, Zbl, Zbk, Zam, Zar, Zaq, Zap, Zao, Zan, Zal, Zay, Zax, Zae, Zec, Zel, Zey, Zem, Blk, Zdj, Zdi, Ret, true_and, and_true, and_self, Yaf, Yag, Yah, Ev.take, Yad, Yae, cond_true, cond_false, Yaw, Yax, Yay, Yaz, if_true, if_false, Zcp, Zcn, Zco, Zdq, Zcq, Zda, Zbc, Zaz, decide_true, decide_false, Option.some.injEq, V.bool.injEq, Zcu, Zag, Yaa, Yab, Yac])
  refine RunsV.mono (indexFunc_spec g p hg hp s hs _ _) ?_
  rintro _ _ ⟨⟨n, rfl, hn⟩, rfl⟩
  simp -implicitDefEqProofs only [Zek, Zcy, Zce, Zej, Zei, Zeh, Zeg, Zex, r_1, Zet, Zer, Zed, Zes, Zeq, r_2, Zev, Zeu, Zee, r_H, Zew, Zdz, Zcw, Zbv, Zdt, Zbw, Zaj, Zct, Zcc, Zaa, Zad, Zac, Zds, Zdu, Zdv, Zeb, Zea, Zcs, Zby, Zcv, Zbz, Zav, Zcb, Zak, Zaw, Zdx, Zau, Zdy, Zca, Zdw, Zai, Zah, Zcx, Zat, Zcr, Zbx, Zcd, Zef, Zcz, Zbb, Zba, Zfa, Zfe, Zfb, Zfc, Zfd, evS, Zeo, Zen, Zep, Zez, Rd.ev, Zbu, Zcj, Zci, Zdc, Zch, Zdd, Zcg, Yai, Yaj, Yak, Yau, Yav, reduceIte, reduceCtorEq, Nat.reduceEqDiff, Nat.reduceAdd, Zbi, Zbs, Zbo, Zbq, Zbr, Zbj, Zbp, Zbn, Zbm, Zbl, Zbk, Zam, Zar, Zaq, Zap, Zao, Zan, Zal, Zay, Zax, Zae, Zec, Zel, Zey, Zem, Blk, Zdj, Zdi, Ret, true_and, and_true, and_self, Yaf, Yag, Yah, Ev.take, Yad, Yae, cond_true, cond_false, Yaw, Yax, Yay, Yaz, if_true, if_false, Zcp, Zcn, Zco, Zdq, Zcq, Zda, Zbc, Zaz, decide_true, decide_false, Option.some.injEq, V.bool.injEq, Zcu, Zag, Yaa, Yab, Yac]
  refine WC_ret ?_
  simp -implicitDefEqProofs only [Zek, Zcy, Zce, Zej, Zei, Zeh, Zeg, Zex, r_1, Zet, Zer, Zed, Zes, Zeq, r_2, Zev, Zeu, Zee, r_H, Zew, Zdz, Zcw, Zbv, Zdt, Zbw, Zaj, Zct, Zcc, Zaa, Zad, Zac, Zds, Zdu, Zdv, Zeb, Zea, Zcs, Zby, Zcv, Zbz, Zav, Zcb, Zak, Zaw, Zdx, Zau, Zdy, Zca, Zdw, Zai, Zah, Zcx, Zat, Zcr, Zbx, Zcd, Zef, Zcz, Zbb, Zba, Zfa, Zfe, Zfb, Zfc, Zfd, evS, Zeo, Zen, Zep, Zez, Rd.ev, Zbu, Zcj, Zci, Zdc, Zch, Zdd, Zcg, Yai, Yaj, Yak, Yau, Yav, reduceIte, reduceCtorEq, Nat.reduceEqDiff, Nat.reduceAdd, Zbi, Zbs, Zbo, Zbq, Zbr, Zbj, Zbp, Zbn, Zbm, Zbl, Zbk, Zam, Zar, Zaq, Zap, Zao, Zan, Zal, Zay, Zax, Zae, Zec, Zel, Zey, Zem, Blk, Zdj, Zdi, Ret, true_and, and_true, and_self, Yaf, Yag, Yah, Ev.take, Yad, Yae, cond_true, cond_false, Yaw, Yax, Yay, Yaz, if_true, if_false, Zcp, Zcn, Zco, Zdq, Zcq, Zda, Zbc, Zaz, decide_true, decide_false, Option.some.injEq, V.bool.injEq, Zcu, Zag, Yaa, Yab, Yac]
  exact ⟨n, rfl, hn⟩

def badName (c : Int) : Bool := decide (c < 33) || (decide (c > 126) || c == 47)

theorem badName_spec (c : Int) (H : Heap) (bar : Nat) : RunsV (tabOf EE) (.f 27) [.int .i32 c] H bar fun v h => v = .bool (badName c) ∧ h = H := by
  refine RunsV_code low27 (Nat.le_of_ble_eq_true rfl) ?_
  unfold ir27
  ((repeat refine Zcm ?_); refine Zbf (by rfl) ?_; simp -implicitDefEqProofs only [q27_0, Zek, Zcy, Zce, Zej, Zei, Zeh, Zeg, Zex, r_1, Zet, Zer, Zed, Zes, Zeq, r_2, Zev, Zeu, Zee, r_H, Zew, Zdz, Zcw, Zbv, Zdt, Zbw, Zaj, Zct, Zcc, Zaa, Zad, Zac, Zds, Zdu, Zdv, Zeb, Zea, Zcs, Zby, Zcv, Zbz, Zav, Zcb, Zak, Zaw, Zdx, Zau, Zdy, Zca, Zdw, Zai, Zah, Zcx, Zat, Zcr, Zbx, Zcd, Zef, Zcz, Zbb, Zba, Zfa, Zfe, Zfb, Zfc, Zfd, evS, Zeo, Zen, Zep, Zez, Rd.ev, Zbu, Zcj, Zci, Zdc, Zch, Zdd, Zcg, Yai, Yaj, Yak, Yau, Yav, reduceIte, reduceCtorEq, Nat.reduceEqDiff, Nat.reduceAdd, Zbi, Zbs, Zbo, Zbq, Zbr, Zbj, Zbp, Zbn, Zbm, Zbl, Zbk, Zam, Zar, Zaq, Zap, Zao, Zan, Zal, Zay, Zax, Zae, Zec, Zel, Zey, Zem, Blk, Zdj, Zdi, Ret, true_and, and_true, and_self, Yaf, Yag, Yah, Ev.take, Yad, Yae, cond_true, cond_false, Yaw, Yax, Yay, Yaz, if_true, if_false, Zcp, Zcn, Zco, Zdq, Zcq, Zda, Zbc, Zaz, decide_true, decide_false, Option.some.injEq, V.bool.injEq, Zcu, Zag, Yaa, Yab, Yac])
  ((repeat refine Zcm ?_); refine Zbf (by rfl) ?_; simp -implicitDefEqProofs only [q27_1, Zek, Zcy, Zce, Zej, Zei, Zeh, Zeg, Zex, r_1, Zet, Zer, Zed, Zes, Zeq, r_2, Zev, Zeu, Zee, r_H, Zew, Zdz, Zcw, Zbv, Zdt, Zbw, Zaj, Zct, Zcc, Zaa, Zad, Zac, Zds, Zdu, Zdv, Zeb, Zea, Zcs, Zby, Zcv, Zbz, Zav, Zcb, Zak, Zaw, Zdx, Zau, Zdy, Zca, Zdw, Zai, Zah, Zcx, Zat, Zcr, Zbx, Zcd, Zef, Zcz, Zbb, Zba, Zfa, Zfe, Zfb, Zfc, Zfd, evS, Zeo, Zen, Zep, Zez, Rd.ev, Zbu, Zcj, Zci, Zdc, Zch, Zdd, Zcg, Yai, Yaj, Yak, Yau, Yav, reduceIte, reduceCtorEq, Nat.reduceEqDiff, Nat.reduceAdd, Zbi, Zbs, Zbo, Zbq, Zbr, Zbj, Zbp, Zbn, Zbm, Zbl, Zbk, Zam, Zar, Zaq, Zap, Zao, Zan, Zal, Zay, Zax, Zae, Zec, Zel, Zey, Zem, Blk, Zdj, Zdi, Ret, true_and, and_true, and_self, Yaf, Yag, Yah, Ev.take, Yad, Yae, cond_true, cond_false, Yaw, Yax, Yay, Yaz, if_true, if_false, Zcp, Zcn, Zco, Zdq, Zcq, Zda, Zbc, Zaz, decide_true, decide_false, Option.some.injEq, V.bool.injEq, Zcu, Zag, Yaa, Yab, Yac])
  (repeat' (first | refine Gd_b (fun hgd => ?_) (fun hgd => ?_) | refine Gd_b' (fun hgd => ?_) (fun hgd => ?_)) <;> simp -implicitDefEqProofs only [hgd, Zek, Zcy, Zce, Zej, Zei, Zeh, Zeg, Zex, r_1, Zet, Zer, Zed, Zes, Zeq, r_2, Zev, Zeu, Zee, r_H, Zew, Zdz, Zcw, Zbv, Zdt, Zbw, Zaj, Zct, Zcc, Zaa, Zad, Zac, Zds, Zdu, Zdv, Zeb, Zea, Zcs, Zby, Zcv, Zbz, Zav, Zcb, Zak, Zaw, Zdx, Zau, Zdy, Zca, Zdw, Zai, Zah, Zcx, Zat, Zcr, Zbx, Zcd, Zef, Zcz, Zbb, Zba, Zfa, Zfe, Zfb, Zfc, Zfd, evS, Zeo, Zen, Zep, Zez, Rd.ev, Zbu, Zcj, Zci, Zdc, Zch, Zdd, Zcg, Yai, Yaj, Yak, Yau, Yav, reduceIte, reduceCtorEq, Nat.reduceEqDiff, Nat.reduceAdd, Zbi, Zbs, Zbo, Zbq, Zbr, Zbj, Zbp, Zbn, Zbm, Zbl, Zbk, Zam, Zar, Zaq, Zap, Zao, Zan, Zal, Zay, Zax, Zae, Zec, Zel, Zey, Zem, Blk, Zdj, Zdi, Ret, true_and, and_true, and_self, Yaf, Yag, Yah, Ev.take, Yad, Yae, cond_true, cond_false, Yaw, Yax, Yay, Yaz, if_true, if_false, Zcp, Zcn, Zco, Zdq, Zcq, Zda, Zbc, Zaz, decide_true, decide_false, Option.some.injEq, V.bool.injEq, Zcu, Zag, Yaa, Yab, Yac])
  all_goals refine WC_ret ?_
  all_goals simp -implicitDefEqProofs only [Zek, Zcy, Zce, Zej, Zei, Zeh, Zeg, Zex, r_1, Zet, Zer, Zed, Zes, Zeq, r_2, Zev, Zeu, Zee, r_H, Zew, Zdz, Zcw, Zbv, Zdt, Zbw, Zaj, Zct, Zcc, Zaa, Zad, Zac, Zds, Zdu, Zdv, Zeb, Zea, Zcs, Zby, Zcv, Zbz, Zav, Zcb, Zak, Zaw, Zdx, Zau, Zdy, Zca, Zdw, Zai, Zah, Zcx, Zat, Zcr, Zbx, Zcd, Zef, Zcz, Zbb, Zba, Zfa, Zfe, Zfb, Zfc, Zfd, evS, Zeo, Zen, Zep, Zez, Rd.ev, Zbu, Zcj, Zci, Zdc, Zch, Zdd, Zcg, Yai, Yaj, Yak, Yau, Yav, reduceIte, reduceCtorEq, Nat.reduceEqDiff, Nat.reduceAdd, Zbi, Zbs, Zbo, Zbq, Zbr, Zbj, Zbp, Zbn, Zbm, Zbl, Zbk, Zam, Zar, Zaq, Zap, Zao, Zan, Zal, Zay, Zax, Zae, Zec, Zel, Zey, Zem, Blk, Zdj, Zdi, Ret, true_and, and_true, and_self, Yaf, Yag, Yah, Ev.take, Yad, Yae, cond_true, cond_false, Yaw, Yax, Yay, Yaz, if_true, if_false, Zcp, Zcn, Zco, Zdq, Zcq, Zda, Zbc, Zaz, decide_true, decide_false, Option.some.injEq, V.bool.injEq, Zcu, Zag, Yaa, Yab, Yac]
  all_goals simp only [badName, *, Bool.true_or, Bool.or_true, Bool.false_or]

end Go.Ev.S20
namespace Go.Ev.S20
open Go Go.Ev
set_option maxRecDepth 10000

theorem noneB_name (s : List UInt8) : noneB badName s = s.all nameByte := rfl

theorem dirName_spec (s : List UInt8) (hs : s.length ≤ 1048576) (H : Heap) (bar : Nat) : RunsV (tabOf EE) (.f 14) [.str s] H bar fun v h => v = .bool (okName s) ∧ h = H := by
  refine RunsV_code low14 (Nat.le_of_ble_eq_true rfl) ?_
  unfold ir14
  ((repeat refine Zcm ?_); refine Zbf (by rfl) ?_; simp -implicitDefEqProofs only [q14_0, Zek, Zcy, Zce, Zej, Zei, Zeh, Zeg, Zex, r_1, Zet, Zer, Zed, Zes, Zeq, r_2, Zev, Zeu, Zee, r_H, Zew, Zdz, Zcw, Zbv, Zdt, Zbw, Zaj, Zct, Zcc, Zaa, Zad, Zac, Zds, Zdu, Zdv, Zeb, Zea, Zcs, Zby, Zcv, Zbz, Zav, Zcb, Zak, Zaw, Zdx, Zau, Zdy, Zca, Zdw, Zai, Zah, Zcx, Zat, Zcr, Zbx, Zcd, Zef, Zcz, Zbb, Zba, Zfa, Zfe, Zfb, Zfc, Zfd, evS, Zeo, Zen, Zep, Zez, Rd.ev, Zbu, Zcj, Zci, Zdc, Zch, Zdd, Zcg, Yai, Yaj, Yak, Yau, Yav, reduceIte, reduceCtorEq, Nat.reduceEqDiff, Nat.reduceAdd, Zbi, Zbs, Zbo, Zbq, Zbr, Zbj, Zbp, Zbn, Zbm, Zbl, Zbk, Zam, Zar, Zaq, Zap, Zao, Zan, Zal, Zay, Zax, Zae, Zec, Zel, Zey, Zem, Blk, Zdj, Zdi, Ret, true_and, and_true, and_self, Yaf, Yag, Yah, Ev.take, Yad, Yae, cond_true, cond_false, Yaw, Yax, Yay, Yaz, if_true, if_false, Zcp, Zcn, Zco, Zdq, Zcq, Zda, Zbc, Zaz, decide_true, decide_false, Option.some.injEq, V.bool.injEq, Zcu, Zag, Yaa, Yab, Yac])
  ((repeat refine Zcm ?_); refine Zbf (by rfl) ?_; simp -implicitDefEqProofs only [q14_1, Zek, Zcy, Zce, Zej, Zei, Zeh, Zeg, Zex, r_1, Zet, Zer, Zed, Zes, Zeq, r_2, Zev, Zeu, Zee, r_H, Zew, Zdz, Zcw, Zbv, Zdt, Zbw, Zaj, Zct, Zcc, Zaa, Zad, Zac, Zds, Zdu, Zdv, Zeb, Zea, Zcs, Zby, Zcv, Zbz, Zav, Zcb, Zak, Zaw, Zdx, Zau, Zdy, Zca, Zdw, Zai, Zah, Zcx, Zat, Zcr, Zbx, Zcd, Zef, Zcz, Zbb, Zba, Zfa, Zfe, Zfb, Zfc, Zfd, evS, Zeo, Zen, Zep, Zez, Rd.ev, Zbu, Zcj, Zci, Zdc, Zch, Zdd, Zcg, Yai, Yaj, Yak, Yau, Yav, reduceIte, reduceCtorEq, Nat.reduceEqDiff, Nat.reduceAdd, Zbi, Zbs, Zbo, Zbq, Zbr, Zbj, Zbp, Zbn, Zbm, Zbl, Zbk, Zam, Zar, Zaq, Zap, Zao, Zan, Zal, Zay, Zax, Zae, Zec, Zel, Zey, Zem, Blk, Zdj, Zdi, Ret, true_and, and_true, and_self, Yaf, Yag, Yah, Ev.take, Yad, Yae, cond_true, cond_false, Yaw, Yax, Yay, Yaz, if_true, if_false, Zcp, Zcn, Zco, Zdq, Zcq, Zda, Zbc, Zaz, decide_true, decide_false, Option.some.injEq, V.bool.injEq, Zcu, Zag, Yaa, Yab, Yac])
  ((repeat refine Zcm ?_); refine Zbf (by rfl) ?_; simp -implicitDefEqProofs only [q14_2, Zek, Zcy, Zce, Zej, Zei, Zeh, Zeg, Zex, r_1, Zet, Zer, Zed, Zes, Zeq, r_2, Zev, Zeu, Zee, r_H, Zew, Zdz, Zcw, Zbv, Zdt, Zbw, Zaj, Zct, Zcc, Zaa, Zad, Zac, Zds, Zdu, Zdv, Zeb, Zea, Zcs, Zby, Zcv, Zbz, Zav, Zcb, Zak, Zaw, Zdx, Zau, Zdy, Zca, Zdw, Zai, Zah, Zcx, Zat, Zcr, Zbx, Zcd, Zef, Zcz, Zbb, Zba, Zfa, Zfe, Zfb, Zfc, Zfd, evS, Zeo, Zen, Zep, Zez, Rd.ev, Zbu, Zcj, Zci, Zdc, Zch, Zdd, Zcg, Yai, Yaj, Yak, Yau, Yav, reduceIte, reduceCtorEq, Nat.reduceEqDiff, Nat.reduceAdd, Zbi, Zbs, Zbo, Zbq, Zbr, Zbj, Zbp, Zbn, Zbm, Zbl, Zbk, Zam, Zar, Zaq, Zap, Zao, Zan, Zal, Zay, Zax, Zae, Zec, Zel, Zey, Zem, Blk, Zdj, Zdi, Ret, true_and, and_true, and_self, Yaf, Yag, Yah, Ev.take, Yad, Yae, cond_true, cond_false, Yaw, Yax, Yay, Yaz, if_true, if_false, Zcp, Zcn, Zco, Zdq, Zcq, Zda, Zbc, Zaz, decide_true, decide_false, Option.some.injEq, V.bool.injEq, Zcu, Zag, Yaa, Yab, Yac])
  (repeat' (first | refine Gd_b (fun hgd => ?_) (fun hgd => ?_) | refine Gd_b' (fun hgd => ?_) (fun hgd => ?_)) <;> simp -implicitDefEqProofs only [hgd, Zek, Zcy, Zce, Zej, Zei, Zeh, Zeg, Zex, r_1, Zet, Zer, Zed, Zes, Zeq, r_2, Zev, Zeu, Zee, r_H, Zew, Zdz, Zcw, Zbv, Zdt, Zbw, Zaj, Zct, Zcc, Zaa, Zad, Zac, Zds, Zdu, Zdv, Zeb, Zea, Zcs, Zby, Zcv, Zbz, Zav, Zcb, Zak, Zaw, Zdx, Zau, Zdy, Zca, Zdw, Zai, Zah, Zcx, Zat, Zcr, Zbx, Zcd, Zef, Zcz, Zbb, Zba, Zfa, Zfe, Zfb, Zfc, Zfd, evS, Zeo, Zen, Zep, Zez, Rd.ev, Zbu, Zcj, Zci, Zdc, Zch, Zdd, Zcg, Yai, Yaj, Yak, Yau, Yav, reduceIte, reduceCtorEq, Nat.reduceEqDiff, Nat.reduceAdd, Zbi, Zbs, Zbo, Zbq, Zbr, Zbj, Zbp, Zbn, Zbm, Zbl, Zbk, Zam, Zar, Zaq, Zap, Zao, Zan, Zal, Zay, Zax, Zae, Zec, Zel, Zey, Zem, Blk, Zdj, Zdi, Ret, true_and, and_true, and_self, Yaf, Yag, Yah, Ev.take, Yad, Yae, cond_true, cond_false, Yaw, Yax, Yay, Yaz, if_true, if_false, Zcp, Zcn, Zco, Zdq, Zcq, Zda, Zbc, Zaz, decide_true, decide_false, Option.some.injEq, V.bool.injEq, Zcu, Zag, Yaa, Yab, Yac])
  · refine RunsV.mono (strIndexFunc_spec 27 badName badName_spec (by intro c hc; simp [badName]; omega) s hs _ _) ?_
    rintro _ _ ⟨⟨n, rfl, hn⟩, rfl⟩
    simp -implicitDefEqProofs only [Zek, Zcy, Zce, Zej, Zei, Zeh, Zeg, Zex, r_1, Zet, Zer, Zed, Zes, Zeq, r_2, Zev, Zeu, Zee, r_H, Zew, Zdz, Zcw, Zbv, Zdt, Zbw, Zaj, Zct, Zcc, Zaa, Zad, Zac, Zds, Zdu, Zdv, Zeb, Zea, Zcs, Zby, Zcv, Zbz, Zav, Zcb, Zak, Zaw, Zdx, Zau, Zdy, Zca, Zdw, Zai, Zah, Zcx, Zat, Zcr, Zbx, Zcd, Zef, Zcz, Zbb, Zba, Zfa, Zfe, Zfb, Zfc, Zfd, evS, Zeo, Zen, Zep, Zez, Rd.ev, Zbu, Zcj, Zci, Zdc, Zch, Zdd, Zcg, Yai, Yaj, Yak, Yau, Yav, reduceIte, reduceCtorEq, Nat.reduceEqDiff, Nat.reduceAdd, Zbi, Zbs, Zbo, Zbq, Zbr, Zbj, Zbp, Zbn, Zbm, Zbl, Zbk, Zam, Zar, Zaq, Zap, Zao, Zan, Zal, Zay, Zax, Zae, Zec, Zel, Zey, Zem, Blk, Zdj, Zdi, Ret, true_and, and_true, and_self, Yaf, Yag, Yah, Ev.take, Yad, Yae, cond_true, cond_false, Yaw, Yax, Yay, Yaz, if_true, if_false, Zcp, Zcn, Zco, Zdq, Zcq, Zda, Zbc, Zaz, decide_true, decide_false, Option.some.injEq, V.bool.injEq, Zcu, Zag, Yaa, Yab, Yac]
    (repeat refine Zcm ?_); refine WC_ret ?_; simp -implicitDefEqProofs only [Zek, Zcy, Zce, Zej, Zei, Zeh, Zeg, Zex, r_1, Zet, Zer, Zed, Zes, Zeq, r_2, Zev, Zeu, Zee, r_H, Zew, Zdz, Zcw, Zbv, Zdt, Zbw, Zaj, Zct, Zcc, Zaa, Zad, Zac, Zds, Zdu, Zdv, Zeb, Zea, Zcs, Zby, Zcv, Zbz, Zav, Zcb, Zak, Zaw, Zdx, Zau, Zdy, Zca, Zdw, Zai, Zah, Zcx, Zat, Zcr, Zbx, Zcd, Zef, Zcz, Zbb, Zba, Zfa, Zfe, Zfb, Zfc, Zfd, evS, Zeo, Zen, Zep, Zez, Rd.ev, Zbu, Zcj, Zci, Zdc, Zch, Zdd, Zcg, Yai, Yaj, Yak, Yau, Yav, reduceIte, reduceCtorEq, Nat.reduceEqDiff, Nat.reduceAdd, Zbi, Zbs, Zbo, Zbq, Zbr, Zbj, Zbp, Zbn, Zbm, Zbl, Zbk, Zam, Zar, Zaq, Zap, Zao, Zan, Zal, Zay, Zax, Zae, Zec, Zel, Zey, Zem, Blk, Zdj, Zdi, Ret, true_and, and_true, and_self, Yaf, Yag, Yah, Ev.take, Yad, Yae, cond_true, cond_false, Yaw, Yax, Yay, Yaz, if_true, if_false, Zcp, Zcn, Zco, Zdq, Zcq, Zda, Zbc, Zaz, decide_true, decide_false, Option.some.injEq, V.bool.injEq, Zcu, Zag, Yaa, Yab, Yac]
    simp only [okName, hn, noneB_name, bne, *, Bool.true_and, Bool.and_true]
  all_goals (repeat refine Zcm ?_); refine WC_ret ?_; simp -implicitDefEqProofs only [Zek, Zcy, Zce, Zej, Zei, Zeh, Zeg, Zex, r_1, Zet, Zer, Zed, Zes, Zeq, r_2, Zev, Zeu, Zee, r_H, Zew, Zdz, Zcw, Zbv, Zdt, Zbw, Zaj, Zct, Zcc, Zaa, Zad, Zac, Zds, Zdu, Zdv, Zeb, Zea, Zcs, Zby, Zcv, Zbz, Zav, Zcb, Zak, Zaw, Zdx, Zau, Zdy, Zca, Zdw, Zai, Zah, Zcx, Zat, Zcr, Zbx, Zcd, Zef, Zcz, Zbb, Zba, Zfa, Zfe, Zfb, Zfc, Zfd, evS, Zeo, Zen, Zep, Zez, Rd.ev, Zbu, Zcj, Zci, Zdc, Zch, Zdd, Zcg, Yai, Yaj, Yak, Yau, Yav, reduceIte, reduceCtorEq, Nat.reduceEqDiff, Nat.reduceAdd, Zbi, Zbs, Zbo, Zbq, Zbr, Zbj, Zbp, Zbn, Zbm, Zbl, Zbk, Zam, Zar, Zaq, Zap, Zao, Zan, Zal, Zay, Zax, Zae, Zec, Zel, Zey, Zem, Blk, Zdj, Zdi, Ret, true_and, and_true, and_self, Yaf, Yag, Yah, Ev.take, Yad, Yae, cond_true, cond_false, Yaw, Yax, Yay, Yaz, if_true, if_false, Zcp, Zcn, Zco, Zdq, Zcq, Zda, Zbc, Zaz, decide_true, decide_false, Option.some.injEq, V.bool.injEq, Zcu, Zag, Yaa, Yab, Yac]
  all_goals simp only [okName, bne, *, Bool.and_true, Bool.true_and, Bool.false_and, Bool.and_false]

theorem badPart_spec (s : List UInt8) (hs : s.length ≤ 1048576) (H : Heap) (bar : Nat) : RunsV (tabOf EE) (.f 13) [.str s] H bar fun v h => v = .bool (!okName s) ∧ h = H := by
  refine RunsV_code low13 (Nat.le_of_ble_eq_true rfl) ?_
  unfold ir13
  ((repeat refine Zcm ?_); refine Zbf (by rfl) ?_; simp -implicitDefEqProofs only [q13_0, Zek, Zcy, Zce, Zej, Zei, Zeh, Zeg, Zex, r_1, Zet, Zer, Zed, Zes, Zeq, r_2, Zev, Zeu, Zee, r_H, Zew, Zdz, Zcw, Zbv, Zdt, Zbw, Zaj, Zct, Zcc, Zaa, Zad, Zac, Zds, Zdu, Zdv, Zeb, Zea, Zcs, Zby, Zcv, Zbz, Zav, Zcb, Zak, Zaw, Zdx, Zau, Zdy, Zca, Zdw, Zai, Zah, Zcx, Zat, Zcr, Zbx, Zcd, Zef, Zcz, Zbb, Zba, Zfa, Zfe, Zfb, Zfc, Zfd, evS, Zeo, Zen, Zep, Zez, Rd.ev, Zbu, Zcj, Zci, Zdc, Zch, Zdd, Zcg, Yai, Yaj, Yak, Yau, Yav, reduceIte, reduceCtorEq, Nat.reduceEqDiff, Nat.reduceAdd, Zbi, Zbs, Zbo, Zbq, Zbr, Zbj, Zbp, Zbn, Zbm, Zbl, Zbk, Zam, Zar, Zaq, Zap, Zao, Zan, Zal, Zay, Zax, Zae, Zec, Zel, Zey, Zem, Blk, Zdj, Zdi, Ret, true_and, and_true, and_self, Yaf, Yag, Yah, Ev.take, Yad, Yae, cond_true, cond_false, Yaw, Yax, Yay, Yaz, if_true, if_false, Zcp, Zcn, Zco, Zdq, Zcq, Zda, Zbc, Zaz, decide_true, decide_false, Option.some.injEq, V.bool.injEq, Zcu, Zag, Yaa, Yab, Yac])
  ((repeat refine Zcm ?_); refine Zbf (by rfl) ?_; simp -implicitDefEqProofs only [q13_1, Zek, Zcy, Zce, Zej, Zei, Zeh, Zeg, Zex, r_1, Zet, Zer, Zed, Zes, Zeq, r_2, Zev, Zeu, Zee, r_H, Zew, Zdz, Zcw, Zbv, Zdt, Zbw, Zaj, Zct, Zcc, Zaa, Zad, Zac, Zds, Zdu, Zdv, Zeb, Zea, Zcs, Zby, Zcv, Zbz, Zav, Zcb, Zak, Zaw, Zdx, Zau, Zdy, Zca, Zdw, Zai, Zah, Zcx, Zat, Zcr, Zbx, Zcd, Zef, Zcz, Zbb, Zba, Zfa, Zfe, Zfb, Zfc, Zfd, evS, Zeo, Zen, Zep, Zez, Rd.ev, Zbu, Zcj, Zci, Zdc, Zch, Zdd, Zcg, Yai, Yaj, Yak, Yau, Yav, reduceIte, reduceCtorEq, Nat.reduceEqDiff, Nat.reduceAdd, Zbi, Zbs, Zbo, Zbq, Zbr, Zbj, Zbp, Zbn, Zbm, Zbl, Zbk, Zam, Zar, Zaq, Zap, Zao, Zan, Zal, Zay, Zax, Zae, Zec, Zel, Zey, Zem, Blk, Zdj, Zdi, Ret, true_and, and_true, and_self, Yaf, Yag, Yah, Ev.take, Yad, Yae, cond_true, cond_false, Yaw, Yax, Yay, Yaz, if_true, if_false, Zcp, Zcn, Zco, Zdq, Zcq, Zda, Zbc, Zaz, decide_true, decide_false, Option.some.injEq, V.bool.injEq, Zcu, Zag, Yaa, Yab, Yac])
  refine RunsV.mono (dirName_spec s hs _ _) ?_
  rintro _ _ ⟨rfl, rfl⟩
  simp -implicitDefEqProofs only [Zek, Zcy, Zce, Zej, Zei, Zeh, Zeg, Zex, r_1, Zet, Zer, Zed, Zes, Zeq, r_2, Zev, Zeu, Zee, r_H, Zew, Zdz, Zcw, Zbv, Zdt, Zbw, Zaj, Zct, Zcc, Zaa, Zad, Zac, Zds, Zdu, Zdv, Zeb, Zea, Zcs, Zby, Zcv, Zbz, Zav, Zcb, Zak, Zaw, Zdx, Zau, Zdy, Zca, Zdw, Zai, Zah, Zcx, Zat, Zcr, Zbx, Zcd, Zef, Zcz, Zbb, Zba, Zfa, Zfe, Zfb, Zfc, Zfd, evS, Zeo, Zen, Zep, Zez, Rd.ev, Zbu, Zcj, Zci, Zdc, Zch, Zdd, Zcg, Yai, Yaj, Yak, Yau, Yav, reduceIte, reduceCtorEq, Nat.reduceEqDiff, Nat.reduceAdd, Zbi, Zbs, Zbo, Zbq, Zbr, Zbj, Zbp, Zbn, Zbm, Zbl, Zbk, Zam, Zar, Zaq, Zap, Zao, Zan, Zal, Zay, Zax, Zae, Zec, Zel, Zey, Zem, Blk, Zdj, Zdi, Ret, true_and, and_true, and_self, Yaf, Yag, Yah, Ev.take, Yad, Yae, cond_true, cond_false, Yaw, Yax, Yay, Yaz, if_true, if_false, Zcp, Zcn, Zco, Zdq, Zcq, Zda, Zbc, Zaz, decide_true, decide_false, Option.some.injEq, V.bool.injEq, Zcu, Zag, Yaa, Yab, Yac]
  (repeat refine Zcm ?_); refine WC_ret ?_; simp -implicitDefEqProofs only [Zek, Zcy, Zce, Zej, Zei, Zeh, Zeg, Zex, r_1, Zet, Zer, Zed, Zes, Zeq, r_2, Zev, Zeu, Zee, r_H, Zew, Zdz, Zcw, Zbv, Zdt, Zbw, Zaj, Zct, Zcc, Zaa, Zad, Zac, Zds, Zdu, Zdv, Zeb, Zea, Zcs, Zby, Zcv, Zbz, Zav, Zcb, Zak, Zaw, Zdx, Zau, Zdy, Zca, Zdw, Zai, Zah, Zcx, Zat, Zcr, Zbx, Zcd, Zef, Zcz, Zbb, Zba, Zfa, Zfe, Zfb, Zfc, Zfd, evS, Zeo, Zen, Zep, Zez, Rd.ev, Zbu, Zcj, Zci, Zdc, Zch, Zdd, Zcg, Yai, Yaj, Yak, Yau, Yav, reduceIte, reduceCtorEq, Nat.reduceEqDiff, Nat.reduceAdd, Zbi, Zbs, Zbo, Zbq, Zbr, Zbj, Zbp, Zbn, Zbm, Zbl, Zbk, Zam, Zar, Zaq, Zap, Zao, Zan, Zal, Zay, Zax, Zae, Zec, Zel, Zey, Zem, Blk, Zdj, Zdi, Ret, true_and, and_true, and_self, Yaf, Yag, Yah, Ev.take, Yad, Yae, cond_true, cond_false, Yaw, Yax, Yay, Yaz, if_true, if_false, Zcp, Zcn, Zco, Zdq, Zcq, Zda, Zbc, Zaz, decide_true, decide_false, Option.some.injEq, V.bool.injEq, Zcu, Zag, Yaa, Yab, Yac]

/-- Rows of a slice of texts. -/
def strs (l : List (List UInt8)) : List (List V) := l.map fun s => [.str s]

theorem strs_get (l : List (List UInt8)) (i : Nat) : (strs l)[i]? = (l[i]?).map fun s => [V.str s] := by simp [strs]

theorem indexName_spec (v0 : V) (l : List (List UInt8)) (hl : l.length ≤ 2097152) (hs : ∀ s ∈ l, s.length ≤ 1048576) (H : Heap) (hv : Sees H v0 l) (bar : Nat) :
    RunsV (tabOf EE) (.f 26) [v0, .fn (.func 13) [] []] H bar fun v h => (∃ n : Int, v = .int .i64 n ∧ decide (n ≥ 0) = l.any fun s => !okName s) ∧ h = H := by
  refine RunsV_code low26 (Nat.le_of_ble_eq_true rfl) ?_
  unfold ir26
  ((repeat refine Zcm ?_); refine Zbf (by rfl) ?_; simp -implicitDefEqProofs only [q26_0, Zek, Zcy, Zce, Zej, Zei, Zeh, Zeg, Zex, r_1, Zet, Zer, Zed, Zes, Zeq, r_2, Zev, Zeu, Zee, r_H, Zew, Zdz, Zcw, Zbv, Zdt, Zbw, Zaj, Zct, Zcc, Zaa, Zad, Zac, Zds, Zdu, Zdv, Zeb, Zea, Zcs, Zby, Zcv, Zbz, Zav, Zcb, Zak, Zaw, Zdx, Zau, Zdy, Zca, Zdw, Zai, Zah, Zcx, Zat, Zcr, Zbx, Zcd, Zef, Zcz, Zbb, Zba, Zfa, Zfe, Zfb, Zfc, Zfd, evS, Zeo, Zen, Zep, Zez, Rd.ev, Zbu, Zcj, Zci, Zdc, Zch, Zdd, Zcg, Yai, Yaj, Yak, Yau, Yav, reduceIte, reduceCtorEq, Nat.reduceEqDiff, Nat.reduceAdd, Zbi, Zbs, Zbo, Zbq, Zbr, Zbj, Zbp, Zbn, Zbm, Zbl, Zbk, Zam, Zar, Zaq, Zap, Zao, Zan, Zal, Zay, Zax, Zae, Zec, Zel, Zey, Zem, Blk, Zdj, Zdi, Ret, true_and, and_true, and_self, Yaf, Yag, Yah, Ev.take, Yad, Yae, cond_true, cond_false, Yaw, Yax, Yay, Yaz, if_true, if_false, Zcp, Zcn, Zco, Zdq, Zcq, Zda, Zbc, Zaz, decide_true, decide_false, Option.some.injEq, V.bool.injEq, Zcu, Zag, Yaa, Yab, Yac])
  (repeat refine Zcm ?_); refine Zbf (by rfl) ?_
  simp -implicitDefEqProofs only [Zek, Zcy, Zce, Zej, Zei, Zeh, Zeg, Zex, r_1, Zet, Zer, Zed, Zes, Zeq, r_2, Zev, Zeu, Zee, r_H, Zew, Zdz, Zcw, Zbv, Zdt, Zbw, Zaj, Zct, Zcc, Zaa, Zad, Zac, Zds, Zdu, Zdv, Zeb, Zea, Zcs, Zby, Zcv, Zbz, Zav, Zcb, Zak, Zaw, Zdx, Zau, Zdy, Zca, Zdw, Zai, Zah, Zcx, Zat, Zcr, Zbx, Zcd, Zef, Zcz, Zbb, Zba, Zfa, Zfe, Zfb, Zfc, Zfd, evS, Zeo, Zen, Zep, Zez, Rd.ev, Zbu, Zcj, Zci, Zdc, Zch, Zdd, Zcg, Yai, Yaj, Yak, Yau, Yav, reduceIte, reduceCtorEq, Nat.reduceEqDiff, Nat.reduceAdd, Zbi, Zbs, Zbo, Zbq, Zbr, Zbj, Zbp, Zbn, Zbm, Zbl, Zbk, Zam, Zar, Zaq, Zap, Zao, Zan, Zal, Zay, Zax, Zae, Zec, Zel, Zey, Zem, Blk, Zdj, Zdi, Ret, true_and, and_true, and_self, Yaf, Yag, Yah, Ev.take, Yad, Yae, cond_true, cond_false, Yaw, Yax, Yay, Yaz, if_true, if_false, Zcp, Zcn, Zco, Zdq, Zcq, Zda, Zbc, Zaz, decide_true, decide_false, Option.some.injEq, V.bool.injEq, Zcu, Zag, Yaa, Yab, Yac, q26_1, o_len_g, hv.len]
  refine WC_block ?_
  refine WC_loop (α := Nat) (fun i σ h => i ≤ l.length ∧ ((l.take i).any fun s => !okName s) = false ∧ Sub [(0, v0), (1, .fn (.func 13) [] []), (7, .int .i64 l.length), (8, .int .i64 i)] σ ∧ h = H) (fun i => l.length - i) 0 ⟨by omega, by simp, Sub_cons rfl (Sub_cons rfl (Sub_cons rfl (Sub_cons rfl Sub_nil))), rfl⟩ ?_
  rintro i σ h ⟨hi, hall, hsub, rfl⟩
  refine WC.less hsub ?_
  unfold c26_8
  ((repeat refine Zcm ?_); refine Zbf (by rfl) ?_; simp -implicitDefEqProofs only [q26_2, Zek, Zcy, Zce, Zej, Zei, Zeh, Zeg, Zex, r_1, Zet, Zer, Zed, Zes, Zeq, r_2, Zev, Zeu, Zee, r_H, Zew, Zdz, Zcw, Zbv, Zdt, Zbw, Zaj, Zct, Zcc, Zaa, Zad, Zac, Zds, Zdu, Zdv, Zeb, Zea, Zcs, Zby, Zcv, Zbz, Zav, Zcb, Zak, Zaw, Zdx, Zau, Zdy, Zca, Zdw, Zai, Zah, Zcx, Zat, Zcr, Zbx, Zcd, Zef, Zcz, Zbb, Zba, Zfa, Zfe, Zfb, Zfc, Zfd, evS, Zeo, Zen, Zep, Zez, Rd.ev, Zbu, Zcj, Zci, Zdc, Zch, Zdd, Zcg, Yai, Yaj, Yak, Yau, Yav, reduceIte, reduceCtorEq, Nat.reduceEqDiff, Nat.reduceAdd, Zbi, Zbs, Zbo, Zbq, Zbr, Zbj, Zbp, Zbn, Zbm, Zbl, Zbk, Zam, Zar, Zaq, Zap, Zao, Zan, Zal, Zay, Zax, Zae, Zec, Zel, Zey, Zem, Blk, Zdj, Zdi, Ret, true_and, and_true, and_self, Yaf, Yag, Yah, Ev.take, Yad, Yae, cond_true, cond_false, Yaw, Yax, Yay, Yaz, if_true, if_false, Zcp, Zcn, Zco, Zdq, Zcq, Zda, Zbc, Zaz, decide_true, decide_false, Option.some.injEq, V.bool.injEq, Zcu, Zag, Yaa, Yab, Yac])
  (repeat refine Zcm ?_); refine Zbe (by rfl) (fun hc => ?_) (fun hc => ?_)
  · have hlt : i < l.length := by simpa using hc
    have hsi : l[i]? = some l[i] := List.getElem?_eq_getElem hlt
    (repeat refine Zcm ?_); refine Zbg ?_; simp -implicitDefEqProofs only [Zem, Blk, Zdj, Zdi, Ret, reduceIte, Nat.reduceEqDiff, if_true, if_false, reduceCtorEq, true_and, and_true]
    (repeat refine Zcm ?_)
    refine WC_block ?_
    ((repeat refine Zcm ?_); refine Zbf (by rfl) ?_; simp -implicitDefEqProofs only [q26_3, Zek, Zcy, Zce, Zej, Zei, Zeh, Zeg, Zex, r_1, Zet, Zer, Zed, Zes, Zeq, r_2, Zev, Zeu, Zee, r_H, Zew, Zdz, Zcw, Zbv, Zdt, Zbw, Zaj, Zct, Zcc, Zaa, Zad, Zac, Zds, Zdu, Zdv, Zeb, Zea, Zcs, Zby, Zcv, Zbz, Zav, Zcb, Zak, Zaw, Zdx, Zau, Zdy, Zca, Zdw, Zai, Zah, Zcx, Zat, Zcr, Zbx, Zcd, Zef, Zcz, Zbb, Zba, Zfa, Zfe, Zfb, Zfc, Zfd, evS, Zeo, Zen, Zep, Zez, Rd.ev, Zbu, Zcj, Zci, Zdc, Zch, Zdd, Zcg, Yai, Yaj, Yak, Yau, Yav, reduceIte, reduceCtorEq, Nat.reduceEqDiff, Nat.reduceAdd, Zbi, Zbs, Zbo, Zbq, Zbr, Zbj, Zbp, Zbn, Zbm, Zbl, Zbk, Zam, Zar, Zaq, Zap, Zao, Zan, Zal, Zay, Zax, Zae, Zec, Zel, Zey, Zem, Blk, Zdj, Zdi, Ret, true_and, and_true, and_self, Yaf, Yag, Yah, Ev.take, Yad, Yae, cond_true, cond_false, Yaw, Yax, Yay, Yaz, if_true, if_false, Zcp, Zcn, Zco, Zdq, Zcq, Zda, Zbc, Zaz, decide_true, decide_false, Option.some.injEq, V.bool.injEq, Zcu, Zag, Yaa, Yab, Yac])
    obtain ⟨a, ha1, ha2⟩ := hv.get i hlt
    (repeat refine Zcm ?_); refine Zbf (by rfl) ?_
    simp -implicitDefEqProofs only [Zek, Zcy, Zce, Zej, Zei, Zeh, Zeg, Zex, r_1, Zet, Zer, Zed, Zes, Zeq, r_2, Zev, Zeu, Zee, r_H, Zew, Zdz, Zcw, Zbv, Zdt, Zbw, Zaj, Zct, Zcc, Zaa, Zad, Zac, Zds, Zdu, Zdv, Zeb, Zea, Zcs, Zby, Zcv, Zbz, Zav, Zcb, Zak, Zaw, Zdx, Zau, Zdy, Zca, Zdw, Zai, Zah, Zcx, Zat, Zcr, Zbx, Zcd, Zef, Zcz, Zbb, Zba, Zfa, Zfe, Zfb, Zfc, Zfd, evS, Zeo, Zen, Zep, Zez, Rd.ev, Zbu, Zcj, Zci, Zdc, Zch, Zdd, Zcg, Yai, Yaj, Yak, Yau, Yav, reduceIte, reduceCtorEq, Nat.reduceEqDiff, Nat.reduceAdd, Zbi, Zbs, Zbo, Zbq, Zbr, Zbj, Zbp, Zbn, Zbm, Zbl, Zbk, Zam, Zar, Zaq, Zap, Zao, Zan, Zal, Zay, Zax, Zae, Zec, Zel, Zey, Zem, Blk, Zdj, Zdi, Ret, true_and, and_true, and_self, Yaf, Yag, Yah, Ev.take, Yad, Yae, cond_true, cond_false, Yaw, Yax, Yay, Yaz, if_true, if_false, Zcp, Zcn, Zco, Zdq, Zcq, Zda, Zbc, Zaz, decide_true, decide_false, Option.some.injEq, V.bool.injEq, Zcu, Zag, Yaa, Yab, Yac, q26_4, ha1, ha2]
    refine RunsV.mono (badPart_spec _ (hs _ (List.getElem_mem hlt)) _ _) ?_
    rintro _ _ ⟨rfl, rfl⟩
    simp -implicitDefEqProofs only [Zek, Zcy, Zce, Zej, Zei, Zeh, Zeg, Zex, r_1, Zet, Zer, Zed, Zes, Zeq, r_2, Zev, Zeu, Zee, r_H, Zew, Zdz, Zcw, Zbv, Zdt, Zbw, Zaj, Zct, Zcc, Zaa, Zad, Zac, Zds, Zdu, Zdv, Zeb, Zea, Zcs, Zby, Zcv, Zbz, Zav, Zcb, Zak, Zaw, Zdx, Zau, Zdy, Zca, Zdw, Zai, Zah, Zcx, Zat, Zcr, Zbx, Zcd, Zef, Zcz, Zbb, Zba, Zfa, Zfe, Zfb, Zfc, Zfd, evS, Zeo, Zen, Zep, Zez, Rd.ev, Zbu, Zcj, Zci, Zdc, Zch, Zdd, Zcg, Yai, Yaj, Yak, Yau, Yav, reduceIte, reduceCtorEq, Nat.reduceEqDiff, Nat.reduceAdd, Zbi, Zbs, Zbo, Zbq, Zbr, Zbj, Zbp, Zbn, Zbm, Zbl, Zbk, Zam, Zar, Zaq, Zap, Zao, Zan, Zal, Zay, Zax, Zae, Zec, Zel, Zey, Zem, Blk, Zdj, Zdi, Ret, true_and, and_true, and_self, Yaf, Yag, Yah, Ev.take, Yad, Yae, cond_true, cond_false, Yaw, Yax, Yay, Yaz, if_true, if_false, Zcp, Zcn, Zco, Zdq, Zcq, Zda, Zbc, Zaz, decide_true, decide_false, Option.some.injEq, V.bool.injEq, Zcu, Zag, Yaa, Yab, Yac]
    (repeat refine Zcm ?_); refine Zbe (by rfl) (fun hc => ?_) (fun hc => ?_)
    · unfold c26_6
      ((repeat refine Zcm ?_); refine Zbf (by rfl) ?_; simp -implicitDefEqProofs only [q26_5, Zek, Zcy, Zce, Zej, Zei, Zeh, Zeg, Zex, r_1, Zet, Zer, Zed, Zes, Zeq, r_2, Zev, Zeu, Zee, r_H, Zew, Zdz, Zcw, Zbv, Zdt, Zbw, Zaj, Zct, Zcc, Zaa, Zad, Zac, Zds, Zdu, Zdv, Zeb, Zea, Zcs, Zby, Zcv, Zbz, Zav, Zcb, Zak, Zaw, Zdx, Zau, Zdy, Zca, Zdw, Zai, Zah, Zcx, Zat, Zcr, Zbx, Zcd, Zef, Zcz, Zbb, Zba, Zfa, Zfe, Zfb, Zfc, Zfd, evS, Zeo, Zen, Zep, Zez, Rd.ev, Zbu, Zcj, Zci, Zdc, Zch, Zdd, Zcg, Yai, Yaj, Yak, Yau, Yav, reduceIte, reduceCtorEq, Nat.reduceEqDiff, Nat.reduceAdd, Zbi, Zbs, Zbo, Zbq, Zbr, Zbj, Zbp, Zbn, Zbm, Zbl, Zbk, Zam, Zar, Zaq, Zap, Zao, Zan, Zal, Zay, Zax, Zae, Zec, Zel, Zey, Zem, Blk, Zdj, Zdi, Ret, true_and, and_true, and_self, Yaf, Yag, Yah, Ev.take, Yad, Yae, cond_true, cond_false, Yaw, Yax, Yay, Yaz, if_true, if_false, Zcp, Zcn, Zco, Zdq, Zcq, Zda, Zbc, Zaz, decide_true, decide_false, Option.some.injEq, V.bool.injEq, Zcu, Zag, Yaa, Yab, Yac])
      (repeat refine Zcm ?_); refine WC_ret ?_; simp -implicitDefEqProofs only [Zek, Zcy, Zce, Zej, Zei, Zeh, Zeg, Zex, r_1, Zet, Zer, Zed, Zes, Zeq, r_2, Zev, Zeu, Zee, r_H, Zew, Zdz, Zcw, Zbv, Zdt, Zbw, Zaj, Zct, Zcc, Zaa, Zad, Zac, Zds, Zdu, Zdv, Zeb, Zea, Zcs, Zby, Zcv, Zbz, Zav, Zcb, Zak, Zaw, Zdx, Zau, Zdy, Zca, Zdw, Zai, Zah, Zcx, Zat, Zcr, Zbx, Zcd, Zef, Zcz, Zbb, Zba, Zfa, Zfe, Zfb, Zfc, Zfd, evS, Zeo, Zen, Zep, Zez, Rd.ev, Zbu, Zcj, Zci, Zdc, Zch, Zdd, Zcg, Yai, Yaj, Yak, Yau, Yav, reduceIte, reduceCtorEq, Nat.reduceEqDiff, Nat.reduceAdd, Zbi, Zbs, Zbo, Zbq, Zbr, Zbj, Zbp, Zbn, Zbm, Zbl, Zbk, Zam, Zar, Zaq, Zap, Zao, Zan, Zal, Zay, Zax, Zae, Zec, Zel, Zey, Zem, Blk, Zdj, Zdi, Ret, true_and, and_true, and_self, Yaf, Yag, Yah, Ev.take, Yad, Yae, cond_true, cond_false, Yaw, Yax, Yay, Yaz, if_true, if_false, Zcp, Zcn, Zco, Zdq, Zcq, Zda, Zbc, Zaz, decide_true, decide_false, Option.some.injEq, V.bool.injEq, Zcu, Zag, Yaa, Yab, Yac]
      refine ⟨_, rfl, ?_⟩
      have h2 : (l.any fun s => !okName s) = true := by
        rw [List.any_eq_true]
        exact ⟨l[i], List.getElem_mem hlt, hc⟩
      rw [h2]; simp
    · (repeat refine Zcm ?_); refine Zbg ?_; simp -implicitDefEqProofs only [Zem, Blk, Zdj, Zdi, Ret, reduceIte, Nat.reduceEqDiff, if_true, if_false, reduceCtorEq, true_and, and_true]
      ((repeat refine Zcm ?_); refine Zbf (by rfl) ?_; simp -implicitDefEqProofs only [q26_7, Zek, Zcy, Zce, Zej, Zei, Zeh, Zeg, Zex, r_1, Zet, Zer, Zed, Zes, Zeq, r_2, Zev, Zeu, Zee, r_H, Zew, Zdz, Zcw, Zbv, Zdt, Zbw, Zaj, Zct, Zcc, Zaa, Zad, Zac, Zds, Zdu, Zdv, Zeb, Zea, Zcs, Zby, Zcv, Zbz, Zav, Zcb, Zak, Zaw, Zdx, Zau, Zdy, Zca, Zdw, Zai, Zah, Zcx, Zat, Zcr, Zbx, Zcd, Zef, Zcz, Zbb, Zba, Zfa, Zfe, Zfb, Zfc, Zfd, evS, Zeo, Zen, Zep, Zez, Rd.ev, Zbu, Zcj, Zci, Zdc, Zch, Zdd, Zcg, Yai, Yaj, Yak, Yau, Yav, reduceIte, reduceCtorEq, Nat.reduceEqDiff, Nat.reduceAdd, Zbi, Zbs, Zbo, Zbq, Zbr, Zbj, Zbp, Zbn, Zbm, Zbl, Zbk, Zam, Zar, Zaq, Zap, Zao, Zan, Zal, Zay, Zax, Zae, Zec, Zel, Zey, Zem, Blk, Zdj, Zdi, Ret, true_and, and_true, and_self, Yaf, Yag, Yah, Ev.take, Yad, Yae, cond_true, cond_false, Yaw, Yax, Yay, Yaz, if_true, if_false, Zcp, Zcn, Zco, Zdq, Zcq, Zda, Zbc, Zaz, decide_true, decide_false, Option.some.injEq, V.bool.injEq, Zcu, Zag, Yaa, Yab, Yac])
      refine ⟨i + 1, by omega, by omega, ?_, ?_⟩
      · rw [List.take_add_one, hsi, List.any_append, hall]
        simpa using hc
      · rw [wrap_succ (by omega)]
        exact Sub_cons rfl (Sub_cons rfl (Sub_cons rfl (Sub_cons rfl Sub_nil)))
  · have hi' : i = l.length := by simp at hc; omega
    (repeat refine Zcm ?_); refine WC_exit ?_; simp -implicitDefEqProofs only [Zem, Blk, Zdj, Zdi, Ret, reduceIte, Nat.reduceEqDiff, if_true, if_false, reduceCtorEq, true_and, and_true]
    ((repeat refine Zcm ?_); refine Zbf (by rfl) ?_; simp -implicitDefEqProofs only [q26_9, Zek, Zcy, Zce, Zej, Zei, Zeh, Zeg, Zex, r_1, Zet, Zer, Zed, Zes, Zeq, r_2, Zev, Zeu, Zee, r_H, Zew, Zdz, Zcw, Zbv, Zdt, Zbw, Zaj, Zct, Zcc, Zaa, Zad, Zac, Zds, Zdu, Zdv, Zeb, Zea, Zcs, Zby, Zcv, Zbz, Zav, Zcb, Zak, Zaw, Zdx, Zau, Zdy, Zca, Zdw, Zai, Zah, Zcx, Zat, Zcr, Zbx, Zcd, Zef, Zcz, Zbb, Zba, Zfa, Zfe, Zfb, Zfc, Zfd, evS, Zeo, Zen, Zep, Zez, Rd.ev, Zbu, Zcj, Zci, Zdc, Zch, Zdd, Zcg, Yai, Yaj, Yak, Yau, Yav, reduceIte, reduceCtorEq, Nat.reduceEqDiff, Nat.reduceAdd, Zbi, Zbs, Zbo, Zbq, Zbr, Zbj, Zbp, Zbn, Zbm, Zbl, Zbk, Zam, Zar, Zaq, Zap, Zao, Zan, Zal, Zay, Zax, Zae, Zec, Zel, Zey, Zem, Blk, Zdj, Zdi, Ret, true_and, and_true, and_self, Yaf, Yag, Yah, Ev.take, Yad, Yae, cond_true, cond_false, Yaw, Yax, Yay, Yaz, if_true, if_false, Zcp, Zcn, Zco, Zdq, Zcq, Zda, Zbc, Zaz, decide_true, decide_false, Option.some.injEq, V.bool.injEq, Zcu, Zag, Yaa, Yab, Yac])
    (repeat refine Zcm ?_); refine WC_ret ?_; simp -implicitDefEqProofs only [Zek, Zcy, Zce, Zej, Zei, Zeh, Zeg, Zex, r_1, Zet, Zer, Zed, Zes, Zeq, r_2, Zev, Zeu, Zee, r_H, Zew, Zdz, Zcw, Zbv, Zdt, Zbw, Zaj, Zct, Zcc, Zaa, Zad, Zac, Zds, Zdu, Zdv, Zeb, Zea, Zcs, Zby, Zcv, Zbz, Zav, Zcb, Zak, Zaw, Zdx, Zau, Zdy, Zca, Zdw, Zai, Zah, Zcx, Zat, Zcr, Zbx, Zcd, Zef, Zcz, Zbb, Zba, Zfa, Zfe, Zfb, Zfc, Zfd, evS, Zeo, Zen, Zep, Zez, Rd.ev, Zbu, Zcj, Zci, Zdc, Zch, Zdd, Zcg, Yai, Yaj, Yak, Yau, Yav, reduceIte, reduceCtorEq, Nat.reduceEqDiff, Nat.reduceAdd, Zbi, Zbs, Zbo, Zbq, Zbr, Zbj, Zbp, Zbn, Zbm, Zbl, Zbk, Zam, Zar, Zaq, Zap, Zao, Zan, Zal, Zay, Zax, Zae, Zec, Zel, Zey, Zem, Blk, Zdj, Zdi, Ret, true_and, and_true, and_self, Yaf, Yag, Yah, Ev.take, Yad, Yae, cond_true, cond_false, Yaw, Yax, Yay, Yaz, if_true, if_false, Zcp, Zcn, Zco, Zdq, Zcq, Zda, Zbc, Zaz, decide_true, decide_false, Option.some.injEq, V.bool.injEq, Zcu, Zag, Yaa, Yab, Yac]
    refine ⟨_, rfl, ?_⟩
    rw [hi', List.take_length] at hall
    rw [hall]; rfl

theorem containsBad_spec (v0 : V) (l : List (List UInt8)) (hl : l.length ≤ 2097152) (hs : ∀ s ∈ l, s.length ≤ 1048576) (H : Heap) (hv : Sees H v0 l) (bar : Nat) :
    RunsV (tabOf EE) (.f 12) [v0, .fn (.func 13) [] []] H bar fun v h => v = .bool (l.any fun s => !okName s) ∧ h = H := by
  refine RunsV_code low12 (Nat.le_of_ble_eq_true rfl) ?_
  unfold ir12
  ((repeat refine Zcm ?_); refine Zbf (by rfl) ?_; simp -implicitDefEqProofs only [q12_0, Zek, Zcy, Zce, Zej, Zei, Zeh, Zeg, Zex, r_1, Zet, Zer, Zed, Zes, Zeq, r_2, Zev, Zeu, Zee, r_H, Zew, Zdz, Zcw, Zbv, Zdt, Zbw, Zaj, Zct, Zcc, Zaa, Zad, Zac, Zds, Zdu, Zdv, Zeb, Zea, Zcs, Zby, Zcv, Zbz, Zav, Zcb, Zak, Zaw, Zdx, Zau, Zdy, Zca, Zdw, Zai, Zah, Zcx, Zat, Zcr, Zbx, Zcd, Zef, Zcz, Zbb, Zba, Zfa, Zfe, Zfb, Zfc, Zfd, evS, Zeo, Zen, Zep, Zez, Rd.ev, Zbu, Zcj, Zci, Zdc, Zch, Zdd, Zcg, Yai, Yaj, Yak, Yau, Yav, reduceIte, reduceCtorEq, Nat.reduceEqDiff, Nat.reduceAdd, Zbi, Zbs, Zbo, Zbq, Zbr, Zbj, Zbp, Zbn, Zbm, Zbl, Zbk, Zam, Zar, Zaq, Zap, Zao, Zan, Zal, Zay, Zax, Zae, Zec, Zel, Zey, Zem, Blk, Zdj, Zdi, Ret, true_and, and_true, and_self, Yaf, Yag, Yah, Ev.take, Yad, Yae, cond_true, cond_false, Yaw, Yax, Yay, Yaz, if_true, if_false, Zcp, Zcn, Zco, Zdq, Zcq, Zda, Zbc, Zaz, decide_true, decide_false, Option.some.injEq, V.bool.injEq, Zcu, Zag, Yaa, Yab, Yac])
  ((repeat refine Zcm ?_); refine Zbf (by rfl) ?_; simp -implicitDefEqProofs only [q12_1, Zek, Zcy, Zce, Zej, Zei, Zeh, Zeg, Zex, r_1, Zet, Zer, Zed, Zes, Zeq, r_2, Zev, Zeu, Zee, r_H, Zew, Zdz, Zcw, Zbv, Zdt, Zbw, Zaj, Zct, Zcc, Zaa, Zad, Zac, Zds, Zdu, Zdv, Zeb, Zea, Zcs, Zby, Zcv, Zbz, Zav, Zcb, Zak, Zaw, Zdx, Zau, Zdy, Zca, Zdw, Zai, Zah, Zcx, Zat, Zcr, Zbx, Zcd, Zef, Zcz, Zbb, Zba, Zfa, Zfe, Zfb, Zfc, Zfd, evS, Zeo, Zen, Zep, Zez, Rd.ev, Zbu, Zcj, Zci, Zdc, Zch, Zdd, Zcg, Yai, Yaj, Yak, Yau, Yav, reduceIte, reduceCtorEq, Nat.reduceEqDiff, Nat.reduceAdd, Zbi, Zbs, Zbo, Zbq, Zbr, Zbj, Zbp, Zbn, Zbm, Zbl, Zbk, Zam, Zar, Zaq, Zap, Zao, Zan, Zal, Zay, Zax, Zae, Zec, Zel, Zey, Zem, Blk, Zdj, Zdi, Ret, true_and, and_true, and_self, Yaf, Yag, Yah, Ev.take, Yad, Yae, cond_true, cond_false, Yaw, Yax, Yay, Yaz, if_true, if_false, Zcp, Zcn, Zco, Zdq, Zcq, Zda, Zbc, Zaz, decide_true, decide_false, Option.some.injEq, V.bool.injEq, Zcu, Zag, Yaa, Yab, Yac])
  refine RunsV.mono (indexName_spec v0 l hl hs _ hv _) ?_
  rintro _ _ ⟨⟨n, rfl, hn⟩, rfl⟩
  simp -implicitDefEqProofs only [Zek, Zcy, Zce, Zej, Zei, Zeh, Zeg, Zex, r_1, Zet, Zer, Zed, Zes, Zeq, r_2, Zev, Zeu, Zee, r_H, Zew, Zdz, Zcw, Zbv, Zdt, Zbw, Zaj, Zct, Zcc, Zaa, Zad, Zac, Zds, Zdu, Zdv, Zeb, Zea, Zcs, Zby, Zcv, Zbz, Zav, Zcb, Zak, Zaw, Zdx, Zau, Zdy, Zca, Zdw, Zai, Zah, Zcx, Zat, Zcr, Zbx, Zcd, Zef, Zcz, Zbb, Zba, Zfa, Zfe, Zfb, Zfc, Zfd, evS, Zeo, Zen, Zep, Zez, Rd.ev, Zbu, Zcj, Zci, Zdc, Zch, Zdd, Zcg, Yai, Yaj, Yak, Yau, Yav, reduceIte, reduceCtorEq, Nat.reduceEqDiff, Nat.reduceAdd, Zbi, Zbs, Zbo, Zbq, Zbr, Zbj, Zbp, Zbn, Zbm, Zbl, Zbk, Zam, Zar, Zaq, Zap, Zao, Zan, Zal, Zay, Zax, Zae, Zec, Zel, Zey, Zem, Blk, Zdj, Zdi, Ret, true_and, and_true, and_self, Yaf, Yag, Yah, Ev.take, Yad, Yae, cond_true, cond_false, Yaw, Yax, Yay, Yaz, if_true, if_false, Zcp, Zcn, Zco, Zdq, Zcq, Zda, Zbc, Zaz, decide_true, decide_false, Option.some.injEq, V.bool.injEq, Zcu, Zag, Yaa, Yab, Yac]
  (repeat refine Zcm ?_); refine WC_ret ?_; simp -implicitDefEqProofs only [Zek, Zcy, Zce, Zej, Zei, Zeh, Zeg, Zex, r_1, Zet, Zer, Zed, Zes, Zeq, r_2, Zev, Zeu, Zee, r_H, Zew, Zdz, Zcw, Zbv, Zdt, Zbw, Zaj, Zct, Zcc, Zaa, Zad, Zac, Zds, Zdu, Zdv, Zeb, Zea, Zcs, Zby, Zcv, Zbz, Zav, Zcb, Zak, Zaw, Zdx, Zau, Zdy, Zca, Zdw, Zai, Zah, Zcx, Zat, Zcr, Zbx, Zcd, Zef, Zcz, Zbb, Zba, Zfa, Zfe, Zfb, Zfc, Zfd, evS, Zeo, Zen, Zep, Zez, Rd.ev, Zbu, Zcj, Zci, Zdc, Zch, Zdd, Zcg, Yai, Yaj, Yak, Yau, Yav, reduceIte, reduceCtorEq, Nat.reduceEqDiff, Nat.reduceAdd, Zbi, Zbs, Zbo, Zbq, Zbr, Zbj, Zbp, Zbn, Zbm, Zbl, Zbk, Zam, Zar, Zaq, Zap, Zao, Zan, Zal, Zay, Zax, Zae, Zec, Zel, Zey, Zem, Blk, Zdj, Zdi, Ret, true_and, and_true, and_self, Yaf, Yag, Yah, Ev.take, Yad, Yae, cond_true, cond_false, Yaw, Yax, Yay, Yaz, if_true, if_false, Zcp, Zcn, Zco, Zdq, Zcq, Zda, Zbc, Zaz, decide_true, decide_false, Option.some.injEq, V.bool.injEq, Zcu, Zag, Yaa, Yab, Yac]
  exact hn

/-! passwords -/
def badPass (c : Int) : Bool := decide (c < 33) || (decide (c > 126) || c == 58)
def passByte (c : UInt8) : Bool := !badPass c.toNat
def okPass (s : List UInt8) : Bool := s.all passByte && (s != [] && decide ((s.length : Int) ≤ 24))

theorem badPass_spec (c : Int) (H : Heap) (bar : Nat) : RunsV (tabOf EE) (.f 62) [.int .i32 c] H bar fun v h => v = .bool (badPass c) ∧ h = H := by
  refine RunsV_code low62 (Nat.le_of_ble_eq_true rfl) ?_
  unfold ir62
  ((repeat refine Zcm ?_); refine Zbf (by rfl) ?_; simp -implicitDefEqProofs only [q62_0, Zek, Zcy, Zce, Zej, Zei, Zeh, Zeg, Zex, r_1, Zet, Zer, Zed, Zes, Zeq, r_2, Zev, Zeu, Zee, r_H, Zew, Zdz, Zcw, Zbv, Zdt, Zbw, Zaj, Zct, Zcc, Zaa, Zad, Zac, Zds, Zdu, Zdv, Zeb, Zea, Zcs, Zby, Zcv, Zbz, Zav, Zcb, Zak, Zaw, Zdx, Zau, Zdy, Zca, Zdw, Zai, Zah, Zcx, Zat, Zcr, Zbx, Zcd, Zef, Zcz, Zbb, Zba, Zfa, Zfe, Zfb, Zfc, Zfd, evS, Zeo, Zen, Zep, Zez, Rd.ev, Zbu, Zcj, Zci, Zdc, Zch, Zdd, Zcg, Yai, Yaj, Yak, Yau, Yav, reduceIte, reduceCtorEq, Nat.reduceEqDiff, Nat.reduceAdd, Zbi, Zbs, Zbo, Zbq, Zbr, Zbj, Zbp, Zbn, Zbm, Zbl, Zbk, Zam, Zar, Zaq, Zap, Zao, Zan, Zal, Zay, Zax, Zae, Zec, Zel, Zey, Zem, Blk, Zdj, Zdi, Ret, true_and, and_true, and_self, Yaf, Yag, Yah, Ev.take, Yad, Yae, cond_true, cond_false, Yaw, Yax, Yay, Yaz, if_true, if_false, Zcp, Zcn, Zco, Zdq, Zcq, Zda, Zbc, Zaz, decide_true, decide_false, Option.some.injEq, V.bool.injEq, Zcu, Zag, Yaa, Yab, Yac])
  ((repeat refine Zcm ?_); refine Zbf (by rfl) ?_; simp -implicitDefEqProofs only [q62_1, Zek, Zcy, Zce, Zej, Zei, Zeh, Zeg, Zex, r_1, Zet, Zer, Zed, Zes, Zeq, r_2, Zev, Zeu, Zee, r_H, Zew, Zdz, Zcw, Zbv, Zdt, Zbw, Zaj, Zct, Zcc, Zaa, Zad, Zac, Zds, Zdu, Zdv, Zeb, Zea, Zcs, Zby, Zcv, Zbz, Zav, Zcb, Zak, Zaw, Zdx, Zau, Zdy, Zca, Zdw, Zai, Zah, Zcx, Zat, Zcr, Zbx, Zcd, Zef, Zcz, Zbb, Zba, Zfa, Zfe, Zfb, Zfc, Zfd, evS, Zeo, Zen, Zep, Zez, Rd.ev, Zbu, Zcj, Zci, Zdc, Zch, Zdd, Zcg, Yai, Yaj, Yak, Yau, Yav, reduceIte, reduceCtorEq, Nat.reduceEqDiff, Nat.reduceAdd, Zbi, Zbs, Zbo, Zbq, Zbr, Zbj, Zbp, Zbn, Zbm, Zbl, Zbk, Zam, Zar, Zaq, Zap, Zao, Zan, Zal, Zay, Zax, Zae, Zec, Zel, Zey, Zem, Blk, Zdj, Zdi, Ret, true_and, and_true, and_self, Yaf, Yag, Yah, Ev.take, Yad, Yae, cond_true, cond_false, Yaw, Yax, Yay, Yaz, if_true, if_false, Zcp, Zcn, Zco, Zdq, Zcq, Zda, Zbc, Zaz, decide_true, decide_false, Option.some.injEq, V.bool.injEq, Zcu, Zag, Yaa, Yab, Yac])
  (repeat' (first | refine Gd_b (fun hgd => ?_) (fun hgd => ?_) | refine Gd_b' (fun hgd => ?_) (fun hgd => ?_)) <;> simp -implicitDefEqProofs only [hgd, Zek, Zcy, Zce, Zej, Zei, Zeh, Zeg, Zex, r_1, Zet, Zer, Zed, Zes, Zeq, r_2, Zev, Zeu, Zee, r_H, Zew, Zdz, Zcw, Zbv, Zdt, Zbw, Zaj, Zct, Zcc, Zaa, Zad, Zac, Zds, Zdu, Zdv, Zeb, Zea, Zcs, Zby, Zcv, Zbz, Zav, Zcb, Zak, Zaw, Zdx, Zau, Zdy, Zca, Zdw, Zai, Zah, Zcx, Zat, Zcr, Zbx, Zcd, Zef, Zcz, Zbb, Zba, Zfa, Zfe, Zfb, Zfc, Zfd, evS, Zeo, Zen, Zep, Zez, Rd.ev, Zbu, Zcj, Zci, Zdc, Zch, Zdd, Zcg, Yai, Yaj, Yak, Yau, Yav, reduceIte, reduceCtorEq, Nat.reduceEqDiff, Nat.reduceAdd, Zbi, Zbs, Zbo, Zbq, Zbr, Zbj, Zbp, Zbn, Zbm, Zbl, Zbk, Zam, Zar, Zaq, Zap, Zao, Zan, Zal, Zay, Zax, Zae, Zec, Zel, Zey, Zem, Blk, Zdj, Zdi, Ret, true_and, and_true, and_self, Yaf, Yag, Yah, Ev.take, Yad, Yae, cond_true, cond_false, Yaw, Yax, Yay, Yaz, if_true, if_false, Zcp, Zcn, Zco, Zdq, Zcq, Zda, Zbc, Zaz, decide_true, decide_false, Option.some.injEq, V.bool.injEq, Zcu, Zag, Yaa, Yab, Yac])
  all_goals (repeat refine Zcm ?_); refine WC_ret ?_; simp -implicitDefEqProofs only [Zek, Zcy, Zce, Zej, Zei, Zeh, Zeg, Zex, r_1, Zet, Zer, Zed, Zes, Zeq, r_2, Zev, Zeu, Zee, r_H, Zew, Zdz, Zcw, Zbv, Zdt, Zbw, Zaj, Zct, Zcc, Zaa, Zad, Zac, Zds, Zdu, Zdv, Zeb, Zea, Zcs, Zby, Zcv, Zbz, Zav, Zcb, Zak, Zaw, Zdx, Zau, Zdy, Zca, Zdw, Zai, Zah, Zcx, Zat, Zcr, Zbx, Zcd, Zef, Zcz, Zbb, Zba, Zfa, Zfe, Zfb, Zfc, Zfd, evS, Zeo, Zen, Zep, Zez, Rd.ev, Zbu, Zcj, Zci, Zdc, Zch, Zdd, Zcg, Yai, Yaj, Yak, Yau, Yav, reduceIte, reduceCtorEq, Nat.reduceEqDiff, Nat.reduceAdd, Zbi, Zbs, Zbo, Zbq, Zbr, Zbj, Zbp, Zbn, Zbm, Zbl, Zbk, Zam, Zar, Zaq, Zap, Zao, Zan, Zal, Zay, Zax, Zae, Zec, Zel, Zey, Zem, Blk, Zdj, Zdi, Ret, true_and, and_true, and_self, Yaf, Yag, Yah, Ev.take, Yad, Yae, cond_true, cond_false, Yaw, Yax, Yay, Yaz, if_true, if_false, Zcp, Zcn, Zco, Zdq, Zcq, Zda, Zbc, Zaz, decide_true, decide_false, Option.some.injEq, V.bool.injEq, Zcu, Zag, Yaa, Yab, Yac]
  all_goals simp only [badPass, *, Bool.true_or, Bool.or_true, Bool.false_or]

theorem storePass_spec (s : List UInt8) (hs : s.length ≤ 1048576) (H : Heap) (bar : Nat) : RunsV (tabOf EE) (.f 29) [.str s] H bar fun v h => v = .bool (okPass s) ∧ h = H := by
  refine RunsV_code low29 (Nat.le_of_ble_eq_true rfl) ?_
  unfold ir29
  ((repeat refine Zcm ?_); refine Zbf (by rfl) ?_; simp -implicitDefEqProofs only [q29_0, Zek, Zcy, Zce, Zej, Zei, Zeh, Zeg, Zex, r_1, Zet, Zer, Zed, Zes, Zeq, r_2, Zev, Zeu, Zee, r_H, Zew, Zdz, Zcw, Zbv, Zdt, Zbw, Zaj, Zct, Zcc, Zaa, Zad, Zac, Zds, Zdu, Zdv, Zeb, Zea, Zcs, Zby, Zcv, Zbz, Zav, Zcb, Zak, Zaw, Zdx, Zau, Zdy, Zca, Zdw, Zai, Zah, Zcx, Zat, Zcr, Zbx, Zcd, Zef, Zcz, Zbb, Zba, Zfa, Zfe, Zfb, Zfc, Zfd, evS, Zeo, Zen, Zep, Zez, Rd.ev, Zbu, Zcj, Zci, Zdc, Zch, Zdd, Zcg, Yai, Yaj, Yak, Yau, Yav, reduceIte, reduceCtorEq, Nat.reduceEqDiff, Nat.reduceAdd, Zbi, Zbs, Zbo, Zbq, Zbr, Zbj, Zbp, Zbn, Zbm, Zbl, Zbk, Zam, Zar, Zaq, Zap, Zao, Zan, Zal, Zay, Zax, Zae, Zec, Zel, Zey, Zem, Blk, Zdj, Zdi, Ret, true_and, and_true, and_self, Yaf, Yag, Yah, Ev.take, Yad, Yae, cond_true, cond_false, Yaw, Yax, Yay, Yaz, if_true, if_false, Zcp, Zcn, Zco, Zdq, Zcq, Zda, Zbc, Zaz, decide_true, decide_false, Option.some.injEq, V.bool.injEq, Zcu, Zag, Yaa, Yab, Yac])
  ((repeat refine Zcm ?_); refine Zbf (by rfl) ?_; simp -implicitDefEqProofs only [q29_1, Zek, Zcy, Zce, Zej, Zei, Zeh, Zeg, Zex, r_1, Zet, Zer, Zed, Zes, Zeq, r_2, Zev, Zeu, Zee, r_H, Zew, Zdz, Zcw, Zbv, Zdt, Zbw, Zaj, Zct, Zcc, Zaa, Zad, Zac, Zds, Zdu, Zdv, Zeb, Zea, Zcs, Zby, Zcv, Zbz, Zav, Zcb, Zak, Zaw, Zdx, Zau, Zdy, Zca, Zdw, Zai, Zah, Zcx, Zat, Zcr, Zbx, Zcd, Zef, Zcz, Zbb, Zba, Zfa, Zfe, Zfb, Zfc, Zfd, evS, Zeo, Zen, Zep, Zez, Rd.ev, Zbu, Zcj, Zci, Zdc, Zch, Zdd, Zcg, Yai, Yaj, Yak, Yau, Yav, reduceIte, reduceCtorEq, Nat.reduceEqDiff, Nat.reduceAdd, Zbi, Zbs, Zbo, Zbq, Zbr, Zbj, Zbp, Zbn, Zbm, Zbl, Zbk, Zam, Zar, Zaq, Zap, Zao, Zan, Zal, Zay, Zax, Zae, Zec, Zel, Zey, Zem, Blk, Zdj, Zdi, Ret, true_and, and_true, and_self, Yaf, Yag, Yah, Ev.take, Yad, Yae, cond_true, cond_false, Yaw, Yax, Yay, Yaz, if_true, if_false, Zcp, Zcn, Zco, Zdq, Zcq, Zda, Zbc, Zaz, decide_true, decide_false, Option.some.injEq, V.bool.injEq, Zcu, Zag, Yaa, Yab, Yac])
  (repeat' (first | refine Gd_b (fun hgd => ?_) (fun hgd => ?_) | refine Gd_b' (fun hgd => ?_) (fun hgd => ?_)) <;> simp -implicitDefEqProofs only [hgd, Zek, Zcy, Zce, Zej, Zei, Zeh, Zeg, Zex, r_1, Zet, Zer, Zed, Zes, Zeq, r_2, Zev, Zeu, Zee, r_H, Zew, Zdz, Zcw, Zbv, Zdt, Zbw, Zaj, Zct, Zcc, Zaa, Zad, Zac, Zds, Zdu, Zdv, Zeb, Zea, Zcs, Zby, Zcv, Zbz, Zav, Zcb, Zak, Zaw, Zdx, Zau, Zdy, Zca, Zdw, Zai, Zah, Zcx, Zat, Zcr, Zbx, Zcd, Zef, Zcz, Zbb, Zba, Zfa, Zfe, Zfb, Zfc, Zfd, evS, Zeo, Zen, Zep, Zez, Rd.ev, Zbu, Zcj, Zci, Zdc, Zch, Zdd, Zcg, Yai, Yaj, Yak, Yau, Yav, reduceIte, reduceCtorEq, Nat.reduceEqDiff, Nat.reduceAdd, Zbi, Zbs, Zbo, Zbq, Zbr, Zbj, Zbp, Zbn, Zbm, Zbl, Zbk, Zam, Zar, Zaq, Zap, Zao, Zan, Zal, Zay, Zax, Zae, Zec, Zel, Zey, Zem, Blk, Zdj, Zdi, Ret, true_and, and_true, and_self, Yaf, Yag, Yah, Ev.take, Yad, Yae, cond_true, cond_false, Yaw, Yax, Yay, Yaz, if_true, if_false, Zcp, Zcn, Zco, Zdq, Zcq, Zda, Zbc, Zaz, decide_true, decide_false, Option.some.injEq, V.bool.injEq, Zcu, Zag, Yaa, Yab, Yac])
  · refine RunsV.mono (strIndexFunc_spec 62 badPass badPass_spec (by intro c hc; simp [badPass]; omega) s hs _ _) ?_
    rintro _ _ ⟨⟨n, rfl, hn⟩, rfl⟩
    simp -implicitDefEqProofs only [Zek, Zcy, Zce, Zej, Zei, Zeh, Zeg, Zex, r_1, Zet, Zer, Zed, Zes, Zeq, r_2, Zev, Zeu, Zee, r_H, Zew, Zdz, Zcw, Zbv, Zdt, Zbw, Zaj, Zct, Zcc, Zaa, Zad, Zac, Zds, Zdu, Zdv, Zeb, Zea, Zcs, Zby, Zcv, Zbz, Zav, Zcb, Zak, Zaw, Zdx, Zau, Zdy, Zca, Zdw, Zai, Zah, Zcx, Zat, Zcr, Zbx, Zcd, Zef, Zcz, Zbb, Zba, Zfa, Zfe, Zfb, Zfc, Zfd, evS, Zeo, Zen, Zep, Zez, Rd.ev, Zbu, Zcj, Zci, Zdc, Zch, Zdd, Zcg, Yai, Yaj, Yak, Yau, Yav, reduceIte, reduceCtorEq, Nat.reduceEqDiff, Nat.reduceAdd, Zbi, Zbs, Zbo, Zbq, Zbr, Zbj, Zbp, Zbn, Zbm, Zbl, Zbk, Zam, Zar, Zaq, Zap, Zao, Zan, Zal, Zay, Zax, Zae, Zec, Zel, Zey, Zem, Blk, Zdj, Zdi, Ret, true_and, and_true, and_self, Yaf, Yag, Yah, Ev.take, Yad, Yae, cond_true, cond_false, Yaw, Yax, Yay, Yaz, if_true, if_false, Zcp, Zcn, Zco, Zdq, Zcq, Zda, Zbc, Zaz, decide_true, decide_false, Option.some.injEq, V.bool.injEq, Zcu, Zag, Yaa, Yab, Yac]
    (repeat refine Zcm ?_); refine WC_ret ?_; simp -implicitDefEqProofs only [Zek, Zcy, Zce, Zej, Zei, Zeh, Zeg, Zex, r_1, Zet, Zer, Zed, Zes, Zeq, r_2, Zev, Zeu, Zee, r_H, Zew, Zdz, Zcw, Zbv, Zdt, Zbw, Zaj, Zct, Zcc, Zaa, Zad, Zac, Zds, Zdu, Zdv, Zeb, Zea, Zcs, Zby, Zcv, Zbz, Zav, Zcb, Zak, Zaw, Zdx, Zau, Zdy, Zca, Zdw, Zai, Zah, Zcx, Zat, Zcr, Zbx, Zcd, Zef, Zcz, Zbb, Zba, Zfa, Zfe, Zfb, Zfc, Zfd, evS, Zeo, Zen, Zep, Zez, Rd.ev, Zbu, Zcj, Zci, Zdc, Zch, Zdd, Zcg, Yai, Yaj, Yak, Yau, Yav, reduceIte, reduceCtorEq, Nat.reduceEqDiff, Nat.reduceAdd, Zbi, Zbs, Zbo, Zbq, Zbr, Zbj, Zbp, Zbn, Zbm, Zbl, Zbk, Zam, Zar, Zaq, Zap, Zao, Zan, Zal, Zay, Zax, Zae, Zec, Zel, Zey, Zem, Blk, Zdj, Zdi, Ret, true_and, and_true, and_self, Yaf, Yag, Yah, Ev.take, Yad, Yae, cond_true, cond_false, Yaw, Yax, Yay, Yaz, if_true, if_false, Zcp, Zcn, Zco, Zdq, Zcq, Zda, Zbc, Zaz, decide_true, decide_false, Option.some.injEq, V.bool.injEq, Zcu, Zag, Yaa, Yab, Yac]
    have : noneB badPass s = s.all passByte := rfl
    simp only [okPass, hn, this, bne, *, Bool.true_and, Bool.and_true]
  all_goals (repeat refine Zcm ?_); refine WC_ret ?_; simp -implicitDefEqProofs only [Zek, Zcy, Zce, Zej, Zei, Zeh, Zeg, Zex, r_1, Zet, Zer, Zed, Zes, Zeq, r_2, Zev, Zeu, Zee, r_H, Zew, Zdz, Zcw, Zbv, Zdt, Zbw, Zaj, Zct, Zcc, Zaa, Zad, Zac, Zds, Zdu, Zdv, Zeb, Zea, Zcs, Zby, Zcv, Zbz, Zav, Zcb, Zak, Zaw, Zdx, Zau, Zdy, Zca, Zdw, Zai, Zah, Zcx, Zat, Zcr, Zbx, Zcd, Zef, Zcz, Zbb, Zba, Zfa, Zfe, Zfb, Zfc, Zfd, evS, Zeo, Zen, Zep, Zez, Rd.ev, Zbu, Zcj, Zci, Zdc, Zch, Zdd, Zcg, Yai, Yaj, Yak, Yau, Yav, reduceIte, reduceCtorEq, Nat.reduceEqDiff, Nat.reduceAdd, Zbi, Zbs, Zbo, Zbq, Zbr, Zbj, Zbp, Zbn, Zbm, Zbl, Zbk, Zam, Zar, Zaq, Zap, Zao, Zan, Zal, Zay, Zax, Zae, Zec, Zel, Zey, Zem, Blk, Zdj, Zdi, Ret, true_and, and_true, and_self, Yaf, Yag, Yah, Ev.take, Yad, Yae, cond_true, cond_false, Yaw, Yax, Yay, Yaz, if_true, if_false, Zcp, Zcn, Zco, Zdq, Zcq, Zda, Zbc, Zaz, decide_true, decide_false, Option.some.injEq, V.bool.injEq, Zcu, Zag, Yaa, Yab, Yac]
  all_goals simp only [okPass, bne, *, Bool.and_true, Bool.true_and, Bool.false_and, Bool.and_false]

theorem bad_pass {s : List UInt8} {i : Nat} (h : i < s.length) (hb : passByte s[i] = false) : okPass s = false := by
  have : s.all passByte = false := by
    rw [List.all_eq_false]
    exact ⟨s[i], List.getElem_mem h, by simp [hb]⟩
  simp [okPass, this]

theorem refPass_spec (s : List UInt8) (hs : s.length ≤ 1048576) (H : Heap) (bar : Nat) : RunsV (tabOf EE) (.f 30) [.str s] H bar fun v h => v = .bool (okPass s) ∧ h = H := by
  refine RunsV_code low30 (Nat.le_of_ble_eq_true rfl) ?_
  unfold ir30
  ((repeat refine Zcm ?_); refine Zbf (by rfl) ?_; simp -implicitDefEqProofs only [q30_0, Zek, Zcy, Zce, Zej, Zei, Zeh, Zeg, Zex, r_1, Zet, Zer, Zed, Zes, Zeq, r_2, Zev, Zeu, Zee, r_H, Zew, Zdz, Zcw, Zbv, Zdt, Zbw, Zaj, Zct, Zcc, Zaa, Zad, Zac, Zds, Zdu, Zdv, Zeb, Zea, Zcs, Zby, Zcv, Zbz, Zav, Zcb, Zak, Zaw, Zdx, Zau, Zdy, Zca, Zdw, Zai, Zah, Zcx, Zat, Zcr, Zbx, Zcd, Zef, Zcz, Zbb, Zba, Zfa, Zfe, Zfb, Zfc, Zfd, evS, Zeo, Zen, Zep, Zez, Rd.ev, Zbu, Zcj, Zci, Zdc, Zch, Zdd, Zcg, Yai, Yaj, Yak, Yau, Yav, reduceIte, reduceCtorEq, Nat.reduceEqDiff, Nat.reduceAdd, Zbi, Zbs, Zbo, Zbq, Zbr, Zbj, Zbp, Zbn, Zbm, Zbl, Zbk, Zam, Zar, Zaq, Zap, Zao, Zan, Zal, Zay, Zax, Zae, Zec, Zel, Zey, Zem, Blk, Zdj, Zdi, Ret, true_and, and_true, and_self, Yaf, Yag, Yah, Ev.take, Yad, Yae, cond_true, cond_false, Yaw, Yax, Yay, Yaz, if_true, if_false, Zcp, Zcn, Zco, Zdq, Zcq, Zda, Zbc, Zaz, decide_true, decide_false, Option.some.injEq, V.bool.injEq, Zcu, Zag, Yaa, Yab, Yac])
  ((repeat refine Zcm ?_); refine Zbf (by rfl) ?_; simp -implicitDefEqProofs only [q30_1, Zek, Zcy, Zce, Zej, Zei, Zeh, Zeg, Zex, r_1, Zet, Zer, Zed, Zes, Zeq, r_2, Zev, Zeu, Zee, r_H, Zew, Zdz, Zcw, Zbv, Zdt, Zbw, Zaj, Zct, Zcc, Zaa, Zad, Zac, Zds, Zdu, Zdv, Zeb, Zea, Zcs, Zby, Zcv, Zbz, Zav, Zcb, Zak, Zaw, Zdx, Zau, Zdy, Zca, Zdw, Zai, Zah, Zcx, Zat, Zcr, Zbx, Zcd, Zef, Zcz, Zbb, Zba, Zfa, Zfe, Zfb, Zfc, Zfd, evS, Zeo, Zen, Zep, Zez, Rd.ev, Zbu, Zcj, Zci, Zdc, Zch, Zdd, Zcg, Yai, Yaj, Yak, Yau, Yav, reduceIte, reduceCtorEq, Nat.reduceEqDiff, Nat.reduceAdd, Zbi, Zbs, Zbo, Zbq, Zbr, Zbj, Zbp, Zbn, Zbm, Zbl, Zbk, Zam, Zar, Zaq, Zap, Zao, Zan, Zal, Zay, Zax, Zae, Zec, Zel, Zey, Zem, Blk, Zdj, Zdi, Ret, true_and, and_true, and_self, Yaf, Yag, Yah, Ev.take, Yad, Yae, cond_true, cond_false, Yaw, Yax, Yay, Yaz, if_true, if_false, Zcp, Zcn, Zco, Zdq, Zcq, Zda, Zbc, Zaz, decide_true, decide_false, Option.some.injEq, V.bool.injEq, Zcu, Zag, Yaa, Yab, Yac])
  refine WC_block ?_
  refine WC_loop (α := Nat) (fun i σ h => i ≤ s.length ∧ (s.take i).all passByte = true ∧ Sub [(0, .str s), (3, .int .i64 i)] σ ∧ h = H) (fun i => s.length - i) 0 ⟨by omega, by simp, Sub_cons rfl (Sub_cons rfl Sub_nil), rfl⟩ ?_
  rintro i σ h ⟨hi, hall, hsub, rfl⟩
  refine WC.less hsub ?_
  unfold c30_7
  ((repeat refine Zcm ?_); refine Zbf (by rfl) ?_; simp -implicitDefEqProofs only [q30_2, Zek, Zcy, Zce, Zej, Zei, Zeh, Zeg, Zex, r_1, Zet, Zer, Zed, Zes, Zeq, r_2, Zev, Zeu, Zee, r_H, Zew, Zdz, Zcw, Zbv, Zdt, Zbw, Zaj, Zct, Zcc, Zaa, Zad, Zac, Zds, Zdu, Zdv, Zeb, Zea, Zcs, Zby, Zcv, Zbz, Zav, Zcb, Zak, Zaw, Zdx, Zau, Zdy, Zca, Zdw, Zai, Zah, Zcx, Zat, Zcr, Zbx, Zcd, Zef, Zcz, Zbb, Zba, Zfa, Zfe, Zfb, Zfc, Zfd, evS, Zeo, Zen, Zep, Zez, Rd.ev, Zbu, Zcj, Zci, Zdc, Zch, Zdd, Zcg, Yai, Yaj, Yak, Yau, Yav, reduceIte, reduceCtorEq, Nat.reduceEqDiff, Nat.reduceAdd, Zbi, Zbs, Zbo, Zbq, Zbr, Zbj, Zbp, Zbn, Zbm, Zbl, Zbk, Zam, Zar, Zaq, Zap, Zao, Zan, Zal, Zay, Zax, Zae, Zec, Zel, Zey, Zem, Blk, Zdj, Zdi, Ret, true_and, and_true, and_self, Yaf, Yag, Yah, Ev.take, Yad, Yae, cond_true, cond_false, Yaw, Yax, Yay, Yaz, if_true, if_false, Zcp, Zcn, Zco, Zdq, Zcq, Zda, Zbc, Zaz, decide_true, decide_false, Option.some.injEq, V.bool.injEq, Zcu, Zag, Yaa, Yab, Yac])
  (repeat refine Zcm ?_); refine Zbe (by rfl) (fun hc => ?_) (fun hc => ?_)
  · have hlt : i < s.length := by simpa using hc
    have hg : s[i]? = some s[i] := List.getElem?_eq_getElem hlt
    (repeat refine Zcm ?_); refine Zbg ?_; simp -implicitDefEqProofs only [Zem, Blk, Zdj, Zdi, Ret, reduceIte, Nat.reduceEqDiff, if_true, if_false, reduceCtorEq, true_and, and_true]
    (repeat refine Zcm ?_); refine WC_block ?_
    refine Zcm ?_; refine Zbf (by rfl) ?_
    simp -implicitDefEqProofs only [Zek, Zcy, Zce, Zej, Zei, Zeh, Zeg, Zex, r_1, Zet, Zer, Zed, Zes, Zeq, r_2, Zev, Zeu, Zee, r_H, Zew, Zdz, Zcw, Zbv, Zdt, Zbw, Zaj, Zct, Zcc, Zaa, Zad, Zac, Zds, Zdu, Zdv, Zeb, Zea, Zcs, Zby, Zcv, Zbz, Zav, Zcb, Zak, Zaw, Zdx, Zau, Zdy, Zca, Zdw, Zai, Zah, Zcx, Zat, Zcr, Zbx, Zcd, Zef, Zcz, Zbb, Zba, Zfa, Zfe, Zfb, Zfc, Zfd, evS, Zeo, Zen, Zep, Zez, Rd.ev, Zbu, Zcj, Zci, Zdc, Zch, Zdd, Zcg, Yai, Yaj, Yak, Yau, Yav, reduceIte, reduceCtorEq, Nat.reduceEqDiff, Nat.reduceAdd, Zbi, Zbs, Zbo, Zbq, Zbr, Zbj, Zbp, Zbn, Zbm, Zbl, Zbk, Zam, Zar, Zaq, Zap, Zao, Zan, Zal, Zay, Zax, Zae, Zec, Zel, Zey, Zem, Blk, Zdj, Zdi, Ret, true_and, and_true, and_self, Yaf, Yag, Yah, Ev.take, Yad, Yae, cond_true, cond_false, Yaw, Yax, Yay, Yaz, if_true, if_false, Zcp, Zcn, Zco, Zdq, Zcq, Zda, Zbc, Zaz, decide_true, decide_false, Option.some.injEq, V.bool.injEq, Zcu, Zag, Yaa, Yab, Yac, q30_3, Int.natCast_nonneg, Int.toNat_natCast, hg, byteV]
    (repeat' (first | refine Gd_b (fun hgd => ?_) (fun hgd => ?_) | refine Gd_b' (fun hgd => ?_) (fun hgd => ?_)) <;> simp -implicitDefEqProofs only [hgd, Zek, Zcy, Zce, Zej, Zei, Zeh, Zeg, Zex, r_1, Zet, Zer, Zed, Zes, Zeq, r_2, Zev, Zeu, Zee, r_H, Zew, Zdz, Zcw, Zbv, Zdt, Zbw, Zaj, Zct, Zcc, Zaa, Zad, Zac, Zds, Zdu, Zdv, Zeb, Zea, Zcs, Zby, Zcv, Zbz, Zav, Zcb, Zak, Zaw, Zdx, Zau, Zdy, Zca, Zdw, Zai, Zah, Zcx, Zat, Zcr, Zbx, Zcd, Zef, Zcz, Zbb, Zba, Zfa, Zfe, Zfb, Zfc, Zfd, evS, Zeo, Zen, Zep, Zez, Rd.ev, Zbu, Zcj, Zci, Zdc, Zch, Zdd, Zcg, Yai, Yaj, Yak, Yau, Yav, reduceIte, reduceCtorEq, Nat.reduceEqDiff, Nat.reduceAdd, Zbi, Zbs, Zbo, Zbq, Zbr, Zbj, Zbp, Zbn, Zbm, Zbl, Zbk, Zam, Zar, Zaq, Zap, Zao, Zan, Zal, Zay, Zax, Zae, Zec, Zel, Zey, Zem, Blk, Zdj, Zdi, Ret, true_and, and_true, and_self, Yaf, Yag, Yah, Ev.take, Yad, Yae, cond_true, cond_false, Yaw, Yax, Yay, Yaz, if_true, if_false, Zcp, Zcn, Zco, Zdq, Zcq, Zda, Zbc, Zaz, decide_true, decide_false, Option.some.injEq, V.bool.injEq, Zcu, Zag, Yaa, Yab, Yac, Int.natCast_nonneg, Int.toNat_natCast, hg, byteV])
    rename_i hgd'
    · (repeat refine Zcm ?_); refine Zbe (by rfl) (fun hc => ?_) (fun hc => ?_)
      · unfold c30_5
        ((repeat refine Zcm ?_); refine Zbf (by rfl) ?_; simp -implicitDefEqProofs only [q30_4, Zek, Zcy, Zce, Zej, Zei, Zeh, Zeg, Zex, r_1, Zet, Zer, Zed, Zes, Zeq, r_2, Zev, Zeu, Zee, r_H, Zew, Zdz, Zcw, Zbv, Zdt, Zbw, Zaj, Zct, Zcc, Zaa, Zad, Zac, Zds, Zdu, Zdv, Zeb, Zea, Zcs, Zby, Zcv, Zbz, Zav, Zcb, Zak, Zaw, Zdx, Zau, Zdy, Zca, Zdw, Zai, Zah, Zcx, Zat, Zcr, Zbx, Zcd, Zef, Zcz, Zbb, Zba, Zfa, Zfe, Zfb, Zfc, Zfd, evS, Zeo, Zen, Zep, Zez, Rd.ev, Zbu, Zcj, Zci, Zdc, Zch, Zdd, Zcg, Yai, Yaj, Yak, Yau, Yav, reduceIte, reduceCtorEq, Nat.reduceEqDiff, Nat.reduceAdd, Zbi, Zbs, Zbo, Zbq, Zbr, Zbj, Zbp, Zbn, Zbm, Zbl, Zbk, Zam, Zar, Zaq, Zap, Zao, Zan, Zal, Zay, Zax, Zae, Zec, Zel, Zey, Zem, Blk, Zdj, Zdi, Ret, true_and, and_true, and_self, Yaf, Yag, Yah, Ev.take, Yad, Yae, cond_true, cond_false, Yaw, Yax, Yay, Yaz, if_true, if_false, Zcp, Zcn, Zco, Zdq, Zcq, Zda, Zbc, Zaz, decide_true, decide_false, Option.some.injEq, V.bool.injEq, Zcu, Zag, Yaa, Yab, Yac])
        (repeat refine Zcm ?_); refine WC_ret ?_; simp -implicitDefEqProofs only [Zek, Zcy, Zce, Zej, Zei, Zeh, Zeg, Zex, r_1, Zet, Zer, Zed, Zes, Zeq, r_2, Zev, Zeu, Zee, r_H, Zew, Zdz, Zcw, Zbv, Zdt, Zbw, Zaj, Zct, Zcc, Zaa, Zad, Zac, Zds, Zdu, Zdv, Zeb, Zea, Zcs, Zby, Zcv, Zbz, Zav, Zcb, Zak, Zaw, Zdx, Zau, Zdy, Zca, Zdw, Zai, Zah, Zcx, Zat, Zcr, Zbx, Zcd, Zef, Zcz, Zbb, Zba, Zfa, Zfe, Zfb, Zfc, Zfd, evS, Zeo, Zen, Zep, Zez, Rd.ev, Zbu, Zcj, Zci, Zdc, Zch, Zdd, Zcg, Yai, Yaj, Yak, Yau, Yav, reduceIte, reduceCtorEq, Nat.reduceEqDiff, Nat.reduceAdd, Zbi, Zbs, Zbo, Zbq, Zbr, Zbj, Zbp, Zbn, Zbm, Zbl, Zbk, Zam, Zar, Zaq, Zap, Zao, Zan, Zal, Zay, Zax, Zae, Zec, Zel, Zey, Zem, Blk, Zdj, Zdi, Ret, true_and, and_true, and_self, Yaf, Yag, Yah, Ev.take, Yad, Yae, cond_true, cond_false, Yaw, Yax, Yay, Yaz, if_true, if_false, Zcp, Zcn, Zco, Zdq, Zcq, Zda, Zbc, Zaz, decide_true, decide_false, Option.some.injEq, V.bool.injEq, Zcu, Zag, Yaa, Yab, Yac]
        rw [bad_pass hlt (by simp only [passByte, badPass, hc, Bool.or_true, Bool.not_true])]
      · (repeat refine Zcm ?_); refine Zbg ?_; simp -implicitDefEqProofs only [Zem, Blk, Zdj, Zdi, Ret, reduceIte, Nat.reduceEqDiff, if_true, if_false, reduceCtorEq, true_and, and_true]
        ((repeat refine Zcm ?_); refine Zbf (by rfl) ?_; simp -implicitDefEqProofs only [q30_6, Zek, Zcy, Zce, Zej, Zei, Zeh, Zeg, Zex, r_1, Zet, Zer, Zed, Zes, Zeq, r_2, Zev, Zeu, Zee, r_H, Zew, Zdz, Zcw, Zbv, Zdt, Zbw, Zaj, Zct, Zcc, Zaa, Zad, Zac, Zds, Zdu, Zdv, Zeb, Zea, Zcs, Zby, Zcv, Zbz, Zav, Zcb, Zak, Zaw, Zdx, Zau, Zdy, Zca, Zdw, Zai, Zah, Zcx, Zat, Zcr, Zbx, Zcd, Zef, Zcz, Zbb, Zba, Zfa, Zfe, Zfb, Zfc, Zfd, evS, Zeo, Zen, Zep, Zez, Rd.ev, Zbu, Zcj, Zci, Zdc, Zch, Zdd, Zcg, Yai, Yaj, Yak, Yau, Yav, reduceIte, reduceCtorEq, Nat.reduceEqDiff, Nat.reduceAdd, Zbi, Zbs, Zbo, Zbq, Zbr, Zbj, Zbp, Zbn, Zbm, Zbl, Zbk, Zam, Zar, Zaq, Zap, Zao, Zan, Zal, Zay, Zax, Zae, Zec, Zel, Zey, Zem, Blk, Zdj, Zdi, Ret, true_and, and_true, and_self, Yaf, Yag, Yah, Ev.take, Yad, Yae, cond_true, cond_false, Yaw, Yax, Yay, Yaz, if_true, if_false, Zcp, Zcn, Zco, Zdq, Zcq, Zda, Zbc, Zaz, decide_true, decide_false, Option.some.injEq, V.bool.injEq, Zcu, Zag, Yaa, Yab, Yac])
        refine ⟨i + 1, by omega, by omega, ?_, ?_⟩
        · rw [take_all_succ hlt, hall]
          simp only [passByte, badPass, hgd, hgd', hc]; rfl
        · rw [wrap_succ (by omega)]
          exact Sub_cons rfl (Sub_cons rfl Sub_nil)
    · (repeat refine Zcm ?_); refine Zbe (by rfl) (fun hc => ?_) (fun hc => ?_)
      · unfold c30_5
        ((repeat refine Zcm ?_); refine Zbf (by rfl) ?_; simp -implicitDefEqProofs only [q30_4, Zek, Zcy, Zce, Zej, Zei, Zeh, Zeg, Zex, r_1, Zet, Zer, Zed, Zes, Zeq, r_2, Zev, Zeu, Zee, r_H, Zew, Zdz, Zcw, Zbv, Zdt, Zbw, Zaj, Zct, Zcc, Zaa, Zad, Zac, Zds, Zdu, Zdv, Zeb, Zea, Zcs, Zby, Zcv, Zbz, Zav, Zcb, Zak, Zaw, Zdx, Zau, Zdy, Zca, Zdw, Zai, Zah, Zcx, Zat, Zcr, Zbx, Zcd, Zef, Zcz, Zbb, Zba, Zfa, Zfe, Zfb, Zfc, Zfd, evS, Zeo, Zen, Zep, Zez, Rd.ev, Zbu, Zcj, Zci, Zdc, Zch, Zdd, Zcg, Yai, Yaj, Yak, Yau, Yav, reduceIte, reduceCtorEq, Nat.reduceEqDiff, Nat.reduceAdd, Zbi, Zbs, Zbo, Zbq, Zbr, Zbj, Zbp, Zbn, Zbm, Zbl, Zbk, Zam, Zar, Zaq, Zap, Zao, Zan, Zal, Zay, Zax, Zae, Zec, Zel, Zey, Zem, Blk, Zdj, Zdi, Ret, true_and, and_true, and_self, Yaf, Yag, Yah, Ev.take, Yad, Yae, cond_true, cond_false, Yaw, Yax, Yay, Yaz, if_true, if_false, Zcp, Zcn, Zco, Zdq, Zcq, Zda, Zbc, Zaz, decide_true, decide_false, Option.some.injEq, V.bool.injEq, Zcu, Zag, Yaa, Yab, Yac])
        (repeat refine Zcm ?_); refine WC_ret ?_; simp -implicitDefEqProofs only [Zek, Zcy, Zce, Zej, Zei, Zeh, Zeg, Zex, r_1, Zet, Zer, Zed, Zes, Zeq, r_2, Zev, Zeu, Zee, r_H, Zew, Zdz, Zcw, Zbv, Zdt, Zbw, Zaj, Zct, Zcc, Zaa, Zad, Zac, Zds, Zdu, Zdv, Zeb, Zea, Zcs, Zby, Zcv, Zbz, Zav, Zcb, Zak, Zaw, Zdx, Zau, Zdy, Zca, Zdw, Zai, Zah, Zcx, Zat, Zcr, Zbx, Zcd, Zef, Zcz, Zbb, Zba, Zfa, Zfe, Zfb, Zfc, Zfd, evS, Zeo, Zen, Zep, Zez, Rd.ev, Zbu, Zcj, Zci, Zdc, Zch, Zdd, Zcg, Yai, Yaj, Yak, Yau, Yav, reduceIte, reduceCtorEq, Nat.reduceEqDiff, Nat.reduceAdd, Zbi, Zbs, Zbo, Zbq, Zbr, Zbj, Zbp, Zbn, Zbm, Zbl, Zbk, Zam, Zar, Zaq, Zap, Zao, Zan, Zal, Zay, Zax, Zae, Zec, Zel, Zey, Zem, Blk, Zdj, Zdi, Ret, true_and, and_true, and_self, Yaf, Yag, Yah, Ev.take, Yad, Yae, cond_true, cond_false, Yaw, Yax, Yay, Yaz, if_true, if_false, Zcp, Zcn, Zco, Zdq, Zcq, Zda, Zbc, Zaz, decide_true, decide_false, Option.some.injEq, V.bool.injEq, Zcu, Zag, Yaa, Yab, Yac]
        rw [bad_pass hlt (by simp only [passByte, badPass, hgd, Bool.true_or, Bool.or_true, Bool.not_true])]
      · cases hc
    · (repeat refine Zcm ?_); refine Zbe (by rfl) (fun hc => ?_) (fun hc => ?_)
      · unfold c30_5
        ((repeat refine Zcm ?_); refine Zbf (by rfl) ?_; simp -implicitDefEqProofs only [q30_4, Zek, Zcy, Zce, Zej, Zei, Zeh, Zeg, Zex, r_1, Zet, Zer, Zed, Zes, Zeq, r_2, Zev, Zeu, Zee, r_H, Zew, Zdz, Zcw, Zbv, Zdt, Zbw, Zaj, Zct, Zcc, Zaa, Zad, Zac, Zds, Zdu, Zdv, Zeb, Zea, Zcs, Zby, Zcv, Zbz, Zav, Zcb, Zak, Zaw, Zdx, Zau, Zdy, Zca, Zdw, Zai, Zah, Zcx, Zat, Zcr, Zbx, Zcd, Zef, Zcz, Zbb, Zba, Zfa, Zfe, Zfb, Zfc, Zfd, evS, Zeo, Zen, Zep, Zez, Rd.ev, Zbu, Zcj, Zci, Zdc, Zch, Zdd, Zcg, Yai, Yaj, Yak, Yau, Yav, reduceIte, reduceCtorEq, Nat.reduceEqDiff, Nat.reduceAdd, Zbi, Zbs, Zbo, Zbq, Zbr, Zbj, Zbp, Zbn, Zbm, Zbl, Zbk, Zam, Zar, Zaq, Zap, Zao, Zan, Zal, Zay, Zax, Zae, Zec, Zel, Zey, Zem, Blk, Zdj, Zdi, Ret, true_and, and_true, and_self, Yaf, Yag, Yah, Ev.take, Yad, Yae, cond_true, cond_false, Yaw, Yax, Yay, Yaz, if_true, if_false, Zcp, Zcn, Zco, Zdq, Zcq, Zda, Zbc, Zaz, decide_true, decide_false, Option.some.injEq, V.bool.injEq, Zcu, Zag, Yaa, Yab, Yac])
        (repeat refine Zcm ?_); refine WC_ret ?_; simp -implicitDefEqProofs only [Zek, Zcy, Zce, Zej, Zei, Zeh, Zeg, Zex, r_1, Zet, Zer, Zed, Zes, Zeq, r_2, Zev, Zeu, Zee, r_H, Zew, Zdz, Zcw, Zbv, Zdt, Zbw, Zaj, Zct, Zcc, Zaa, Zad, Zac, Zds, Zdu, Zdv, Zeb, Zea, Zcs, Zby, Zcv, Zbz, Zav, Zcb, Zak, Zaw, Zdx, Zau, Zdy, Zca, Zdw, Zai, Zah, Zcx, Zat, Zcr, Zbx, Zcd, Zef, Zcz, Zbb, Zba, Zfa, Zfe, Zfb, Zfc, Zfd, evS, Zeo, Zen, Zep, Zez, Rd.ev, Zbu, Zcj, Zci, Zdc, Zch, Zdd, Zcg, Yai, Yaj, Yak, Yau, Yav, reduceIte, reduceCtorEq, Nat.reduceEqDiff, Nat.reduceAdd, Zbi, Zbs, Zbo, Zbq, Zbr, Zbj, Zbp, Zbn, Zbm, Zbl, Zbk, Zam, Zar, Zaq, Zap, Zao, Zan, Zal, Zay, Zax, Zae, Zec, Zel, Zey, Zem, Blk, Zdj, Zdi, Ret, true_and, and_true, and_self, Yaf, Yag, Yah, Ev.take, Yad, Yae, cond_true, cond_false, Yaw, Yax, Yay, Yaz, if_true, if_false, Zcp, Zcn, Zco, Zdq, Zcq, Zda, Zbc, Zaz, decide_true, decide_false, Option.some.injEq, V.bool.injEq, Zcu, Zag, Yaa, Yab, Yac]
        rw [bad_pass hlt (by simp only [passByte, badPass, hgd, Bool.true_or, Bool.or_true, Bool.not_true])]
      · cases hc
  · have hall' : s.all passByte = true := by
      have : i = s.length := by simp at hc; omega
      rw [this, List.take_length] at hall; exact hall
    (repeat refine Zcm ?_); refine WC_exit ?_; simp -implicitDefEqProofs only [Zem, Blk, Zdj, Zdi, Ret, reduceIte, Nat.reduceEqDiff, if_true, if_false, reduceCtorEq, true_and, and_true]
    ((repeat refine Zcm ?_); refine Zbf (by rfl) ?_; simp -implicitDefEqProofs only [q30_8, Zek, Zcy, Zce, Zej, Zei, Zeh, Zeg, Zex, r_1, Zet, Zer, Zed, Zes, Zeq, r_2, Zev, Zeu, Zee, r_H, Zew, Zdz, Zcw, Zbv, Zdt, Zbw, Zaj, Zct, Zcc, Zaa, Zad, Zac, Zds, Zdu, Zdv, Zeb, Zea, Zcs, Zby, Zcv, Zbz, Zav, Zcb, Zak, Zaw, Zdx, Zau, Zdy, Zca, Zdw, Zai, Zah, Zcx, Zat, Zcr, Zbx, Zcd, Zef, Zcz, Zbb, Zba, Zfa, Zfe, Zfb, Zfc, Zfd, evS, Zeo, Zen, Zep, Zez, Rd.ev, Zbu, Zcj, Zci, Zdc, Zch, Zdd, Zcg, Yai, Yaj, Yak, Yau, Yav, reduceIte, reduceCtorEq, Nat.reduceEqDiff, Nat.reduceAdd, Zbi, Zbs, Zbo, Zbq, Zbr, Zbj, Zbp, Zbn, Zbm, Zbl, Zbk, Zam, Zar, Zaq, Zap, Zao, Zan, Zal, Zay, Zax, Zae, Zec, Zel, Zey, Zem, Blk, Zdj, Zdi, Ret, true_and, and_true, and_self, Yaf, Yag, Yah, Ev.take, Yad, Yae, cond_true, cond_false, Yaw, Yax, Yay, Yaz, if_true, if_false, Zcp, Zcn, Zco, Zdq, Zcq, Zda, Zbc, Zaz, decide_true, decide_false, Option.some.injEq, V.bool.injEq, Zcu, Zag, Yaa, Yab, Yac])
    (repeat' (first | refine Gd_b (fun hgd => ?_) (fun hgd => ?_) | refine Gd_b' (fun hgd => ?_) (fun hgd => ?_)) <;> simp -implicitDefEqProofs only [hgd, Zek, Zcy, Zce, Zej, Zei, Zeh, Zeg, Zex, r_1, Zet, Zer, Zed, Zes, Zeq, r_2, Zev, Zeu, Zee, r_H, Zew, Zdz, Zcw, Zbv, Zdt, Zbw, Zaj, Zct, Zcc, Zaa, Zad, Zac, Zds, Zdu, Zdv, Zeb, Zea, Zcs, Zby, Zcv, Zbz, Zav, Zcb, Zak, Zaw, Zdx, Zau, Zdy, Zca, Zdw, Zai, Zah, Zcx, Zat, Zcr, Zbx, Zcd, Zef, Zcz, Zbb, Zba, Zfa, Zfe, Zfb, Zfc, Zfd, evS, Zeo, Zen, Zep, Zez, Rd.ev, Zbu, Zcj, Zci, Zdc, Zch, Zdd, Zcg, Yai, Yaj, Yak, Yau, Yav, reduceIte, reduceCtorEq, Nat.reduceEqDiff, Nat.reduceAdd, Zbi, Zbs, Zbo, Zbq, Zbr, Zbj, Zbp, Zbn, Zbm, Zbl, Zbk, Zam, Zar, Zaq, Zap, Zao, Zan, Zal, Zay, Zax, Zae, Zec, Zel, Zey, Zem, Blk, Zdj, Zdi, Ret, true_and, and_true, and_self, Yaf, Yag, Yah, Ev.take, Yad, Yae, cond_true, cond_false, Yaw, Yax, Yay, Yaz, if_true, if_false, Zcp, Zcn, Zco, Zdq, Zcq, Zda, Zbc, Zaz, decide_true, decide_false, Option.some.injEq, V.bool.injEq, Zcu, Zag, Yaa, Yab, Yac])
    all_goals (repeat refine Zcm ?_); refine WC_ret ?_; simp -implicitDefEqProofs only [Zek, Zcy, Zce, Zej, Zei, Zeh, Zeg, Zex, r_1, Zet, Zer, Zed, Zes, Zeq, r_2, Zev, Zeu, Zee, r_H, Zew, Zdz, Zcw, Zbv, Zdt, Zbw, Zaj, Zct, Zcc, Zaa, Zad, Zac, Zds, Zdu, Zdv, Zeb, Zea, Zcs, Zby, Zcv, Zbz, Zav, Zcb, Zak, Zaw, Zdx, Zau, Zdy, Zca, Zdw, Zai, Zah, Zcx, Zat, Zcr, Zbx, Zcd, Zef, Zcz, Zbb, Zba, Zfa, Zfe, Zfb, Zfc, Zfd, evS, Zeo, Zen, Zep, Zez, Rd.ev, Zbu, Zcj, Zci, Zdc, Zch, Zdd, Zcg, Yai, Yaj, Yak, Yau, Yav, reduceIte, reduceCtorEq, Nat.reduceEqDiff, Nat.reduceAdd, Zbi, Zbs, Zbo, Zbq, Zbr, Zbj, Zbp, Zbn, Zbm, Zbl, Zbk, Zam, Zar, Zaq, Zap, Zao, Zan, Zal, Zay, Zax, Zae, Zec, Zel, Zey, Zem, Blk, Zdj, Zdi, Ret, true_and, and_true, and_self, Yaf, Yag, Yah, Ev.take, Yad, Yae, cond_true, cond_false, Yaw, Yax, Yay, Yaz, if_true, if_false, Zcp, Zcn, Zco, Zdq, Zcq, Zda, Zbc, Zaz, decide_true, decide_false, Option.some.injEq, V.bool.injEq, Zcu, Zag, Yaa, Yab, Yac]
    all_goals simp only [okPass, hall', bne, Bool.true_and, Bool.and_true, Bool.false_and, Bool.and_false, *]

end Go.Ev.S20
