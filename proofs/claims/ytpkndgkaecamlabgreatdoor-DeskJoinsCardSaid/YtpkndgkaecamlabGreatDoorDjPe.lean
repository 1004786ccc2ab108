/- A part of the proof: what Dj computes, step by step. -/
import Derived.Test.YtpkndgkaecamlabGreatDoorDjPd
import Derived.Lib.ItoaNum
import Derived.Lib.Join
import Derived.Lib.Tables

set_option linter.unusedVariables false
set_option linter.unusedSimpArgs false
set_option maxHeartbeats 4000000
set_option maxRecDepth 100000
set_option linter.unusedSectionVars false
set_option linter.unnecessarySimpa false
namespace Go.Mini
namespace Fn
@[reducible] def ideal_Check.r0 : List MOp:=[⟨some 1,.box false tStep (.s 0),none⟩,⟨some 2,.mov (.c (.int .i64 0)),none⟩]
@[reducible] def ideal_Check.r1 : List MOp:=[⟨some 4,.fld tStep 0 tI (.s 1),none⟩,⟨some 5,.load false none tI (.s 4),none⟩,⟨some 6,.bin .lss (.s 5) (.c (.int .i64 1)),none⟩,⟨some 7,.mov (.s 6),none⟩,⟨some 8,.fld tStep 0 tI (.s 1),some (7,false)⟩,⟨some 9,.load false none tI (.s 8),some (7,false)⟩,⟨some 10,.bin .gtr (.s 9) (.c (.int .i64 6)),some (7,false)⟩,⟨some 11,.pick (.s 7) (.c (.bool true)) (.s 10),none⟩]
@[reducible] def ideal_Check.r2 : List MOp:=[⟨some 2,.mov (.c (.int .i64 7)),none⟩]
@[reducible] def ideal_Check.r3 : List MOp:=[⟨some 12,.fld tStep 1 tI (.s 1),none⟩,⟨some 13,.load false none tI (.s 12),none⟩,⟨some 14,.fld tStep 4 tS (.s 1),none⟩,⟨some 15,.load false none tS (.s 14),none⟩,⟨some 16,.call false [] 232 [(.s 13),(.s 15)],none⟩,⟨some 3,.mov (.s 16),none⟩]
@[reducible] def ideal_Check.r4 : List MOp:=[⟨some 17,.mov (.s 3),none⟩,⟨some 18,.bin .neq (.s 17) (.c (.int .i64 0)),none⟩]
@[reducible] def ideal_Check.r5 : List MOp:=[⟨some 19,.mov (.s 3),none⟩,⟨some 2,.mov (.s 19),none⟩]
@[reducible] def ideal_Check.r6 : List MOp:=[⟨some 20,.fld tStep 0 tI (.s 1),none⟩,⟨some 21,.load false none tI (.s 20),none⟩,⟨some 22,.bin .eql (.s 21) (.c (.int .i64 2)),none⟩,⟨some 23,.mov (.s 22),none⟩,⟨some 24,.fld tStep 0 tI (.s 1),some (23,false)⟩,⟨some 25,.load false none tI (.s 24),some (23,false)⟩,⟨some 26,.bin .eql (.s 25) (.c (.int .i64 4)),some (23,false)⟩,⟨some 27,.pick (.s 23) (.c (.bool true)) (.s 26),none⟩]
@[reducible] def ideal_Check.r7 : List MOp:=[⟨some 28,.fld tStep 2 tI (.s 1),none⟩,⟨some 29,.load false none tI (.s 28),none⟩,⟨some 30,.fld tStep 5 tS (.s 1),none⟩,⟨some 31,.load false none tS (.s 30),none⟩,⟨some 32,.call false [] 232 [(.s 29),(.s 31)],none⟩,⟨some 2,.mov (.s 32),none⟩]
@[reducible] def ideal_Check.r8 : List MOp:=[⟨some 33,.fld tStep 0 tI (.s 1),none⟩,⟨some 34,.load false none tI (.s 33),none⟩,⟨some 35,.bin .eql (.s 34) (.c (.int .i64 5)),none⟩,⟨some 36,.mov (.s 35),none⟩,⟨some 37,.fld tStep 0 tI (.s 1),some (36,false)⟩,⟨some 38,.load false none tI (.s 37),some (36,false)⟩,⟨some 39,.bin .eql (.s 38) (.c (.int .i64 6)),some (36,false)⟩,⟨some 40,.pick (.s 36) (.c (.bool true)) (.s 39),none⟩,⟨some 41,.mov (.s 40),none⟩,⟨some 42,.fld tStep 3 tI (.s 1),some (41,true)⟩,⟨some 43,.load false none tI (.s 42),some (41,true)⟩,⟨some 44,.bin .lss (.s 43) (.c (.int .i64 0)),some (41,true)⟩,⟨some 45,.mov (.s 44),some (41,true)⟩,⟨some 46,.fld tStep 3 tI (.s 1),some (45,false)⟩,⟨some 47,.load false none tI (.s 46),some (45,false)⟩,⟨some 48,.bin .geq (.s 47) (.c (.int .i64 2)),some (45,false)⟩,⟨some 49,.pick (.s 45) (.c (.bool true)) (.s 48),some (41,true)⟩,⟨some 50,.pick (.s 41) (.s 49) (.c (.bool false)),none⟩]
@[reducible] def ideal_Check.r9 : List MOp:=[⟨some 2,.mov (.c (.int .i64 1)),none⟩]
@[reducible] def ideal_Check.r10 : List MOp:=[⟨some 51,.fld tStep 0 tI (.s 1),none⟩,⟨some 52,.load false none tI (.s 51),none⟩,⟨some 53,.bin .eql (.s 52) (.c (.int .i64 5)),none⟩,⟨some 54,.mov (.s 53),none⟩,⟨some 55,.fld tStep 6 tS (.s 1),some (54,true)⟩,⟨some 56,.load false none tS (.s 55),some (54,true)⟩,⟨some 57,.len true (.s 56),some (54,true)⟩,⟨some 58,.bin .gtr (.s 57) (.c (.int .i64 8)),some (54,true)⟩,⟨some 59,.pick (.s 54) (.s 58) (.c (.bool false)),none⟩]
@[reducible] def ideal_Check.r11 : List MOp:=[⟨some 2,.mov (.c (.int .i64 3)),none⟩]
@[reducible] def ideal_Check.r12 : List MOp:=[⟨some 2,.mov (.c (.int .i64 0)),none⟩]
@[reducible] def ideal_Check.body : MC:=(.seq (.reg false ideal_Check.r0 [0,2]) (.seq (.seq (.reg false ideal_Check.r1 [4,5,6,7,8,9,10]) (.cond (.s 11) (.seq (.reg false ideal_Check.r2 []) .ret) .skip)) (.seq (.seq (.reg false ideal_Check.r3 [12,13,14,15,16]) (.seq (.reg false ideal_Check.r4 [17]) (.cond (.s 18) (.seq (.reg false ideal_Check.r5 [3,19]) .ret) .skip))) (.seq (.seq (.reg false ideal_Check.r6 [20,21,22,23,24,25,26]) (.cond (.s 27) (.seq (.reg false ideal_Check.r7 [1,28,29,30,31,32]) .ret) .skip)) (.seq (.seq (.reg false ideal_Check.r8 [33,34,35,36,37,38,39,40,41,42,43,44,45,46,47,48,49]) (.cond (.s 50) (.seq (.reg false ideal_Check.r9 []) .ret) .skip)) (.seq (.seq (.reg false ideal_Check.r10 [1,51,52,53,54,55,56,57,58]) (.cond (.s 59) (.seq (.reg false ideal_Check.r11 []) .ret) .skip)) (.seq (.reg false ideal_Check.r12 []) .ret)))))))
@[reducible] def ideal_Check : MFun:={ params:=1,nfree:=0,res:=[.tmp 2],body:=ideal_Check.body }
@[reducible] def ideal_check.r0 : List MOp:=[⟨some 4,.mov (.c (.int .i64 0)),none⟩]
@[reducible] def ideal_check.r1 : List MOp:=[⟨some 6,.mov (.s 0),none⟩,⟨some 7,.bin .lss (.s 6) (.c (.int .i64 0)),none⟩,⟨some 8,.mov (.s 7),none⟩,⟨some 9,.mov (.s 0),some (8,false)⟩,⟨some 10,.bin .geq (.s 9) (.c (.int .i64 3)),some (8,false)⟩,⟨some 11,.pick (.s 8) (.c (.bool true)) (.s 10),none⟩,⟨some 5,.mov (.s 11),none⟩]
@[reducible] def ideal_check.r2 : List MOp:=[⟨some 4,.mov (.c (.int .i64 1)),none⟩]
@[reducible] def ideal_check.r3 : List MOp:=[⟨some 13,.mov (.s 1),none⟩,⟨some 14,.call false [] 14 [(.s 13)],none⟩,⟨some 15,.un .not (.s 14),none⟩,⟨some 12,.mov (.s 15),none⟩]
@[reducible] def ideal_check.r4 : List MOp:=[⟨some 4,.mov (.c (.int .i64 2)),none⟩]
@[reducible] def ideal_check.r5 : List MOp:=[⟨some 4,.mov (.c (.int .i64 0)),none⟩]
@[reducible] def ideal_check.body : MC:=(.seq (.reg false ideal_check.r0 [4]) (.seq (.block 0 (.seq (.reg false ideal_check.r1 [0,6,7,8,9,10,11]) (.cond (.s 5) (.seq (.reg false ideal_check.r2 []) .ret) (.seq (.reg false ideal_check.r3 [1,13,14,15]) (.cond (.s 12) (.seq (.reg false ideal_check.r4 []) .ret) .skip))))) (.seq (.reg false ideal_check.r5 []) .ret)))
@[reducible] def ideal_check : MFun:={ params:=2,nfree:=0,res:=[.tmp 4],body:=ideal_check.body }
@[reducible] def slices_SortFunc.r0 : List MOp:=[⟨some 5,.mov (.s 0),none⟩,⟨some 6,.len false (.s 5),none⟩,⟨some 4,.mov (.s 6),none⟩]
@[reducible] def slices_SortFunc.r1 : List MOp:=[⟨some 7,.mov (.s 0),none⟩,⟨some 8,.mov (.s 4),none⟩,⟨some 9,.mov (.s 4),none⟩,⟨some 10,.conv .u64 (.s 9),none⟩,⟨some 11,.call false [] 240 [(.s 10)],none⟩,⟨some 12,.mov (.s 1),none⟩,⟨some 13,.call false [] 241 [(.s 7),(.c (.int .i64 0)),(.s 8),(.s 11),(.s 12)],none⟩]
@[reducible] def slices_SortFunc.body : MC:=(.seq (.reg false slices_SortFunc.r0 [5,6]) (.reg false slices_SortFunc.r1 [0,1,4,7,8,9,10,11,12,13]))
@[reducible] def slices_SortFunc : MFun:={ params:=2,nfree:=0,res:=[],body:=slices_SortFunc.body }
@[reducible] def math_bits_Len.r0 : List MOp:=[⟨some 2,.mov (.c (.int .i64 0)),none⟩]
@[reducible] def math_bits_Len.r1 : List MOp:=[⟨some 3,.mov (.s 0),none⟩,⟨some 4,.conv .u32 (.s 3),none⟩,⟨some 5,.call false [] 253 [(.s 4)],none⟩,⟨some 2,.mov (.s 5),none⟩]
@[reducible] def math_bits_Len.r2 : List MOp:=[⟨some 6,.mov (.s 0),none⟩,⟨some 7,.call false [] 252 [(.s 6)],none⟩,⟨some 2,.mov (.s 7),none⟩]
@[reducible] def math_bits_Len.body : MC:=(.seq (.reg false math_bits_Len.r0 [2]) (.seq (.cond (.c (.bool false)) (.seq (.reg false math_bits_Len.r1 [0,3,4,5]) .ret) .skip) (.seq (.reg false math_bits_Len.r2 [0,6,7]) .ret)))
@[reducible] def math_bits_Len : MFun:={ params:=1,nfree:=0,res:=[.tmp 2],body:=math_bits_Len.body }
@[reducible] def slices_pdqsortCmpFunc.r0 : List MOp:=[⟨some 10,.mov (.c (.bool true)),none⟩]
@[reducible] def slices_pdqsortCmpFunc.r1 : List MOp:=[⟨some 11,.mov (.c (.bool true)),none⟩]
@[reducible] def slices_pdqsortCmpFunc.r2 : List MOp:=[⟨some 21,.mov (.s 2),none⟩,⟨some 22,.mov (.s 1),none⟩,⟨some 23,.bin .sub (.s 21) (.s 22),none⟩,⟨some 12,.mov (.s 23),none⟩]
@[reducible] def slices_pdqsortCmpFunc.r3 : List MOp:=[⟨some 24,.mov (.s 12),none⟩,⟨some 25,.bin .leq (.s 24) (.c (.int .i64 12)),none⟩]
@[reducible] def slices_pdqsortCmpFunc.r4 : List MOp:=[⟨some 26,.mov (.s 0),none⟩,⟨some 27,.mov (.s 1),none⟩,⟨some 28,.mov (.s 2),none⟩,⟨some 29,.mov (.s 4),none⟩,⟨some 30,.call false [] 251 [(.s 26),(.s 27),(.s 28),(.s 29)],none⟩]
@[reducible] def slices_pdqsortCmpFunc.r5 : List MOp:=[⟨some 31,.mov (.s 3),none⟩,⟨some 32,.bin .eql (.s 31) (.c (.int .i64 0)),none⟩]
@[reducible] def slices_pdqsortCmpFunc.r6 : List MOp:=[⟨some 33,.mov (.s 0),none⟩,⟨some 34,.mov (.s 1),none⟩,⟨some 35,.mov (.s 2),none⟩,⟨some 36,.mov (.s 4),none⟩,⟨some 37,.call false [] 250 [(.s 33),(.s 34),(.s 35),(.s 36)],none⟩]
@[reducible] def slices_pdqsortCmpFunc.r7 : List MOp:=[⟨some 38,.mov (.s 10),none⟩,⟨some 39,.un .not (.s 38),none⟩]
@[reducible] def slices_pdqsortCmpFunc.r8 : List MOp:=[⟨some 40,.mov (.s 0),none⟩,⟨some 41,.mov (.s 1),none⟩,⟨some 42,.mov (.s 2),none⟩,⟨some 43,.mov (.s 4),none⟩,⟨some 44,.call false [] 249 [(.s 40),(.s 41),(.s 42),(.s 43)],none⟩]
@[reducible] def slices_pdqsortCmpFunc.r9 : List MOp:=[⟨some 45,.mov (.s 3),none⟩,⟨some 46,.bin .sub (.s 45) (.c (.int .i64 1)),none⟩,⟨some 3,.mov (.s 46),none⟩]
@[reducible] def slices_pdqsortCmpFunc.r10 : List MOp:=[⟨some 48,.mov (.s 0),none⟩,⟨some 49,.mov (.s 1),none⟩,⟨some 50,.mov (.s 2),none⟩,⟨some 51,.mov (.s 4),none⟩,⟨some 52,.call false [] 248 [(.s 48),(.s 49),(.s 50),(.s 51)],none⟩,⟨some 47,.mov (.s 52),none⟩,⟨some 53,.ext (.s 47) 0,none⟩,⟨some 54,.ext (.s 47) 1,none⟩,⟨some 13,.mov (.s 53),none⟩,⟨some 14,.mov (.s 54),none⟩]
@[reducible] def slices_pdqsortCmpFunc.r11 : List MOp:=[⟨some 55,.mov (.s 14),none⟩,⟨some 56,.bin .eql (.s 55) (.c (.int .i64 2)),none⟩]
@[reducible] def slices_pdqsortCmpFunc.r12 : List MOp:=[⟨some 57,.mov (.s 0),none⟩,⟨some 58,.mov (.s 1),none⟩,⟨some 59,.mov (.s 2),none⟩,⟨some 60,.mov (.s 4),none⟩,⟨some 61,.call false [] 247 [(.s 57),(.s 58),(.s 59),(.s 60)],none⟩]
@[reducible] def slices_pdqsortCmpFunc.r13 : List MOp:=[⟨some 62,.mov (.s 2),none⟩,⟨some 63,.bin .sub (.s 62) (.c (.int .i64 1)),none⟩,⟨some 64,.mov (.s 13),none⟩,⟨some 65,.mov (.s 1),none⟩,⟨some 66,.bin .sub (.s 64) (.s 65),none⟩,⟨some 67,.bin .sub (.s 63) (.s 66),none⟩,⟨some 13,.mov (.s 67),none⟩]
@[reducible] def slices_pdqsortCmpFunc.r14 : List MOp:=[⟨some 14,.mov (.c (.int .i64 1)),none⟩]
@[reducible] def slices_pdqsortCmpFunc.r15 : List MOp:=[⟨some 68,.mov (.s 10),none⟩,⟨some 69,.mov (.s 68),none⟩,⟨some 70,.mov (.s 11),some (69,true)⟩,⟨some 71,.pick (.s 69) (.s 70) (.c (.bool false)),none⟩,⟨some 72,.mov (.s 71),none⟩,⟨some 73,.mov (.s 14),some (72,true)⟩,⟨some 74,.bin .eql (.s 73) (.c (.int .i64 1)),some (72,true)⟩,⟨some 75,.pick (.s 72) (.s 74) (.c (.bool false)),none⟩]
@[reducible] def slices_pdqsortCmpFunc.r16 : List MOp:=[⟨some 76,.mov (.s 0),none⟩,⟨some 77,.mov (.s 1),none⟩,⟨some 78,.mov (.s 2),none⟩,⟨some 79,.mov (.s 4),none⟩,⟨some 80,.call false [] 246 [(.s 76),(.s 77),(.s 78),(.s 79)],none⟩]
@[reducible] def slices_pdqsortCmpFunc.r17 : List MOp:=[⟨some 81,.mov (.s 1),none⟩,⟨some 82,.bin .gtr (.s 81) (.c (.int .i64 0)),none⟩,⟨some 83,.mov (.s 82),none⟩,⟨some 84,.mov (.s 4),some (83,true)⟩,⟨some 85,.mov (.s 0),some (83,true)⟩,⟨some 86,.mov (.s 1),some (83,true)⟩,⟨some 87,.bin .sub (.s 86) (.c (.int .i64 1)),some (83,true)⟩,⟨some 88,.sidx false tS (.s 85) (.s 87),some (83,true)⟩,⟨some 89,.load false none tS (.s 88),some (83,true)⟩,⟨some 90,.mov (.s 0),some (83,true)⟩,⟨some 91,.mov (.s 13),some (83,true)⟩,⟨some 92,.sidx false tS (.s 90) (.s 91),some (83,true)⟩,⟨some 93,.load false none tS (.s 92),some (83,true)⟩,⟨some 94,.callv false [] (.s 84) [(.s 89),(.s 93)],some (83,true)⟩,⟨some 95,.bin .lss (.s 94) (.c (.int .i64 0)),some (83,true)⟩,⟨some 96,.un .not (.s 95),some (83,true)⟩,⟨some 97,.pick (.s 83) (.s 96) (.c (.bool false)),none⟩]
@[reducible] def slices_pdqsortCmpFunc.r18 : List MOp:=[⟨some 98,.mov (.s 0),none⟩,⟨some 99,.mov (.s 1),none⟩,⟨some 100,.mov (.s 2),none⟩,⟨some 101,.mov (.s 13),none⟩,⟨some 102,.mov (.s 4),none⟩,⟨some 103,.call false [] 245 [(.s 98),(.s 99),(.s 100),(.s 101),(.s 102)],none⟩,⟨some 15,.mov (.s 103),none⟩]
@[reducible] def slices_pdqsortCmpFunc.r19 : List MOp:=[⟨some 104,.mov (.s 15),none⟩,⟨some 1,.mov (.s 104),none⟩]
@[reducible] def slices_pdqsortCmpFunc.r20 : List MOp:=[⟨some 106,.mov (.s 0),none⟩,⟨some 107,.mov (.s 1),none⟩,⟨some 108,.mov (.s 2),none⟩,⟨some 109,.mov (.s 13),none⟩,⟨some 110,.mov (.s 4),none⟩,⟨some 111,.call false [] 244 [(.s 106),(.s 107),(.s 108),(.s 109),(.s 110)],none⟩,⟨some 105,.mov (.s 111),none⟩,⟨some 112,.ext (.s 105) 0,none⟩,⟨some 113,.ext (.s 105) 1,none⟩,⟨some 16,.mov (.s 112),none⟩,⟨some 17,.mov (.s 113),none⟩]
@[reducible] def slices_pdqsortCmpFunc.r21 : List MOp:=[⟨some 114,.mov (.s 17),none⟩,⟨some 11,.mov (.s 114),none⟩]
@[reducible] def slices_pdqsortCmpFunc.r22 : List MOp:=[⟨some 115,.mov (.s 16),none⟩,⟨some 116,.mov (.s 1),none⟩,⟨some 117,.bin .sub (.s 115) (.s 116),none⟩,⟨some 118,.mov (.s 2),none⟩,⟨some 119,.mov (.s 16),none⟩,⟨some 120,.bin .sub (.s 118) (.s 119),none⟩,⟨some 18,.mov (.s 117),none⟩,⟨some 19,.mov (.s 120),none⟩]
@[reducible] def slices_pdqsortCmpFunc.r23 : List MOp:=[⟨some 121,.mov (.s 12),none⟩,⟨some 122,.bin .quo (.s 121) (.c (.int .i64 8)),none⟩,⟨some 20,.mov (.s 122),none⟩]
@[reducible] def slices_pdqsortCmpFunc.r24 : List MOp:=[⟨some 123,.mov (.s 18),none⟩,⟨some 124,.mov (.s 19),none⟩,⟨some 125,.bin .lss (.s 123) (.s 124),none⟩]
@[reducible] def slices_pdqsortCmpFunc.r25 : List MOp:=[⟨some 126,.mov (.s 18),none⟩,⟨some 127,.mov (.s 20),none⟩,⟨some 128,.bin .geq (.s 126) (.s 127),none⟩,⟨some 10,.mov (.s 128),none⟩]
@[reducible] def slices_pdqsortCmpFunc.r26 : List MOp:=[⟨some 129,.mov (.s 0),none⟩,⟨some 130,.mov (.s 1),none⟩,⟨some 131,.mov (.s 16),none⟩,⟨some 132,.mov (.s 3),none⟩,⟨some 133,.mov (.s 4),none⟩,⟨some 134,.call false [] 241 [(.s 129),(.s 130),(.s 131),(.s 132),(.s 133)],none⟩]
@[reducible] def slices_pdqsortCmpFunc.r27 : List MOp:=[⟨some 135,.mov (.s 16),none⟩,⟨some 136,.bin .add (.s 135) (.c (.int .i64 1)),none⟩,⟨some 1,.mov (.s 136),none⟩]
@[reducible] def slices_pdqsortCmpFunc.r28 : List MOp:=[⟨some 137,.mov (.s 19),none⟩,⟨some 138,.mov (.s 20),none⟩,⟨some 139,.bin .geq (.s 137) (.s 138),none⟩,⟨some 10,.mov (.s 139),none⟩]
@[reducible] def slices_pdqsortCmpFunc.r29 : List MOp:=[⟨some 140,.mov (.s 0),none⟩,⟨some 141,.mov (.s 16),none⟩,⟨some 142,.bin .add (.s 141) (.c (.int .i64 1)),none⟩,⟨some 143,.mov (.s 2),none⟩,⟨some 144,.mov (.s 3),none⟩,⟨some 145,.mov (.s 4),none⟩,⟨some 146,.call false [] 241 [(.s 140),(.s 142),(.s 143),(.s 144),(.s 145)],none⟩]
@[reducible] def slices_pdqsortCmpFunc.r30 : List MOp:=[⟨some 147,.mov (.s 16),none⟩,⟨some 2,.mov (.s 147),none⟩]
@[reducible] def slices_pdqsortCmpFunc.body : MC:=(.seq (.reg false slices_pdqsortCmpFunc.r0 []) (.seq (.reg false slices_pdqsortCmpFunc.r1 []) (.block 0 (.loop [0,1,2,3,4,10,11] [] (.block 1 (.seq (.reg false slices_pdqsortCmpFunc.r2 [21,22,23]) (.seq (.seq (.reg false slices_pdqsortCmpFunc.r3 [24]) (.cond (.s 25) (.seq (.reg false slices_pdqsortCmpFunc.r4 [0,1,2,4,26,27,28,29,30]) .ret) .skip)) (.seq (.seq (.reg false slices_pdqsortCmpFunc.r5 [31]) (.cond (.s 32) (.seq (.reg false slices_pdqsortCmpFunc.r6 [0,1,2,4,33,34,35,36,37]) .ret) .skip)) (.seq (.seq (.reg false slices_pdqsortCmpFunc.r7 [38]) (.cond (.s 39) (.seq (.reg false slices_pdqsortCmpFunc.r8 [40,41,42,43,44]) (.reg false slices_pdqsortCmpFunc.r9 [45,46])) .skip)) (.seq (.reg false slices_pdqsortCmpFunc.r10 [47,48,49,50,51,52,53,54]) (.seq (.seq (.reg false slices_pdqsortCmpFunc.r11 [55]) (.cond (.s 56) (.seq (.reg false slices_pdqsortCmpFunc.r12 [57,58,59,60,61]) (.seq (.reg false slices_pdqsortCmpFunc.r13 [62,63,64,65,66,67]) (.reg false slices_pdqsortCmpFunc.r14 []))) .skip)) (.seq (.seq (.reg false slices_pdqsortCmpFunc.r15 [14,68,69,70,71,72,73,74]) (.cond (.s 75) (.seq (.reg false slices_pdqsortCmpFunc.r16 [76,77,78,79]) (.cond (.s 80) .ret .skip)) .skip)) (.seq (.seq (.reg true slices_pdqsortCmpFunc.r17 [81,82,83,84,85,86,87,88,89,90,91,92,93,94,95,96]) (.cond (.s 97) (.seq (.reg false slices_pdqsortCmpFunc.r18 [1,13,98,99,100,101,102,103]) (.seq (.reg false slices_pdqsortCmpFunc.r19 [15,104]) (.exit 1))) .skip)) (.seq (.reg false slices_pdqsortCmpFunc.r20 [13,105,106,107,108,109,110,111,112,113]) (.seq (.reg false slices_pdqsortCmpFunc.r21 [17,114]) (.seq (.reg false slices_pdqsortCmpFunc.r22 [115,116,117,118,119,120]) (.seq (.reg false slices_pdqsortCmpFunc.r23 [12,121,122]) (.seq (.reg false slices_pdqsortCmpFunc.r24 [123,124]) (.cond (.s 125) (.seq (.reg false slices_pdqsortCmpFunc.r25 [18,20,126,127,128]) (.seq (.reg false slices_pdqsortCmpFunc.r26 [1,129,130,131,132,133,134]) (.reg false slices_pdqsortCmpFunc.r27 [16,135,136]))) (.seq (.reg false slices_pdqsortCmpFunc.r28 [19,20,137,138,139]) (.seq (.reg false slices_pdqsortCmpFunc.r29 [2,140,141,142,143,144,145,146]) (.reg false slices_pdqsortCmpFunc.r30 [16,147]))))))))))))))))))))))
@[reducible] def slices_pdqsortCmpFunc : MFun:={ params:=5,nfree:=0,res:=[],body:=slices_pdqsortCmpFunc.body }
@[reducible] def cmp_Compare.r0 : List MOp:=[⟨some 4,.mov (.c (.int .i64 0)),none⟩]
@[reducible] def cmp_Compare.r1 : List MOp:=[⟨some 7,.mov (.s 0),none⟩,⟨some 8,.call false [] 243 [(.s 7)],none⟩,⟨some 5,.mov (.s 8),none⟩]
@[reducible] def cmp_Compare.r2 : List MOp:=[⟨some 9,.mov (.s 1),none⟩,⟨some 10,.call false [] 243 [(.s 9)],none⟩,⟨some 6,.mov (.s 10),none⟩]
@[reducible] def cmp_Compare.r3 : List MOp:=[⟨some 11,.mov (.s 5),none⟩]
@[reducible] def cmp_Compare.r4 : List MOp:=[⟨some 12,.mov (.s 6),none⟩]
@[reducible] def cmp_Compare.r5 : List MOp:=[⟨some 4,.mov (.c (.int .i64 0)),none⟩]
@[reducible] def cmp_Compare.r6 : List MOp:=[⟨some 4,.mov (.c (.int .i64 (-1))),none⟩]
@[reducible] def cmp_Compare.r7 : List MOp:=[⟨some 13,.mov (.s 6),none⟩]
@[reducible] def cmp_Compare.r8 : List MOp:=[⟨some 4,.mov (.c (.int .i64 1)),none⟩]
@[reducible] def cmp_Compare.r9 : List MOp:=[⟨some 14,.mov (.s 0),none⟩,⟨some 15,.mov (.s 1),none⟩,⟨some 16,.bin .lss (.s 14) (.s 15),none⟩]
@[reducible] def cmp_Compare.r10 : List MOp:=[⟨some 4,.mov (.c (.int .i64 (-1))),none⟩]
@[reducible] def cmp_Compare.r11 : List MOp:=[⟨some 17,.mov (.s 0),none⟩,⟨some 18,.mov (.s 1),none⟩,⟨some 19,.bin .gtr (.s 17) (.s 18),none⟩]
@[reducible] def cmp_Compare.r12 : List MOp:=[⟨some 4,.mov (.c (.int .i64 1)),none⟩]
@[reducible] def cmp_Compare.r13 : List MOp:=[⟨some 4,.mov (.c (.int .i64 0)),none⟩]
@[reducible] def cmp_Compare.body : MC:=(.seq (.reg false cmp_Compare.r0 [4]) (.seq (.reg false cmp_Compare.r1 [7,8]) (.seq (.reg false cmp_Compare.r2 [9,10]) (.seq (.seq (.reg false cmp_Compare.r3 [5]) (.cond (.s 11) (.seq (.seq (.reg false cmp_Compare.r4 [6]) (.cond (.s 12) (.seq (.reg false cmp_Compare.r5 []) .ret) .skip)) (.seq (.reg false cmp_Compare.r6 []) .ret)) .skip)) (.seq (.seq (.reg false cmp_Compare.r7 [6]) (.cond (.s 13) (.seq (.reg false cmp_Compare.r8 []) .ret) .skip)) (.seq (.seq (.reg false cmp_Compare.r9 [14,15]) (.cond (.s 16) (.seq (.reg false cmp_Compare.r10 []) .ret) .skip)) (.seq (.seq (.reg false cmp_Compare.r11 [0,1,17,18]) (.cond (.s 19) (.seq (.reg false cmp_Compare.r12 []) .ret) .skip)) (.seq (.reg false cmp_Compare.r13 []) .ret))))))))
@[reducible] def cmp_Compare : MFun:={ params:=2,nfree:=0,res:=[.tmp 4],body:=cmp_Compare.body }
@[reducible] def cmp_isNaN.r0 : List MOp:=[⟨some 2,.mov (.c (.bool false)),none⟩]
@[reducible] def cmp_isNaN.r1 : List MOp:=[⟨some 3,.mov (.s 0),none⟩,⟨some 4,.mov (.s 0),none⟩,⟨some 5,.bin .neq (.s 3) (.s 4),none⟩,⟨some 2,.mov (.s 5),none⟩]
@[reducible] def cmp_isNaN.body : MC:=(.seq (.reg false cmp_isNaN.r0 [2]) (.seq (.reg false cmp_isNaN.r1 [0,3,4,5]) .ret))
@[reducible] def cmp_isNaN : MFun:={ params:=1,nfree:=0,res:=[.tmp 2],body:=cmp_isNaN.body }
@[reducible] def slices_insertionSortCmpFunc.r0 : List MOp:=[⟨some 10,.mov (.s 1),none⟩,⟨some 11,.bin .add (.s 10) (.c (.int .i64 1)),none⟩,⟨some 8,.mov (.s 11),none⟩]
@[reducible] def slices_insertionSortCmpFunc.r1 : List MOp:=[⟨some 12,.mov (.s 8),none⟩,⟨some 13,.mov (.s 2),none⟩,⟨some 14,.bin .lss (.s 12) (.s 13),none⟩]
@[reducible] def slices_insertionSortCmpFunc.r2 : List MOp:=[⟨some 15,.mov (.s 8),none⟩,⟨some 16,.bin .add (.s 15) (.c (.int .i64 1)),none⟩,⟨some 8,.mov (.s 16),none⟩]
@[reducible] def slices_insertionSortCmpFunc.r3 : List MOp:=[⟨some 17,.mov (.s 8),none⟩,⟨some 9,.mov (.s 17),none⟩]
@[reducible] def slices_insertionSortCmpFunc.r4 : List MOp:=[⟨some 18,.mov (.s 9),none⟩,⟨some 19,.mov (.s 1),none⟩,⟨some 20,.bin .gtr (.s 18) (.s 19),none⟩,⟨some 21,.mov (.s 20),none⟩,⟨some 22,.mov (.s 3),some (21,true)⟩,⟨some 23,.mov (.s 0),some (21,true)⟩,⟨some 24,.mov (.s 9),some (21,true)⟩,⟨some 25,.sidx false tS (.s 23) (.s 24),some (21,true)⟩,⟨some 26,.load false none tS (.s 25),some (21,true)⟩,⟨some 27,.mov (.s 0),some (21,true)⟩,⟨some 28,.mov (.s 9),some (21,true)⟩,⟨some 29,.bin .sub (.s 28) (.c (.int .i64 1)),some (21,true)⟩,⟨some 30,.sidx false tS (.s 27) (.s 29),some (21,true)⟩,⟨some 31,.load false none tS (.s 30),some (21,true)⟩,⟨some 32,.callv false [] (.s 22) [(.s 26),(.s 31)],some (21,true)⟩,⟨some 33,.bin .lss (.s 32) (.c (.int .i64 0)),some (21,true)⟩,⟨some 34,.pick (.s 21) (.s 33) (.c (.bool false)),none⟩]
@[reducible] def slices_insertionSortCmpFunc.r5 : List MOp:=[⟨some 35,.mov (.s 9),none⟩,⟨some 36,.bin .sub (.s 35) (.c (.int .i64 1)),none⟩,⟨some 9,.mov (.s 36),none⟩]
@[reducible] def slices_insertionSortCmpFunc.r6 : List MOp:=[⟨some 37,.mov (.s 0),none⟩,⟨some 38,.mov (.s 9),none⟩,⟨some 39,.mov (.s 0),none⟩,⟨some 40,.mov (.s 9),none⟩,⟨some 41,.bin .sub (.s 40) (.c (.int .i64 1)),none⟩,⟨some 42,.mov (.s 0),none⟩,⟨some 43,.mov (.s 9),none⟩,⟨some 44,.bin .sub (.s 43) (.c (.int .i64 1)),none⟩,⟨some 45,.sidx false tS (.s 42) (.s 44),none⟩,⟨some 46,.load false none tS (.s 45),none⟩,⟨some 47,.mov (.s 0),none⟩,⟨some 48,.mov (.s 9),none⟩,⟨some 49,.sidx false tS (.s 47) (.s 48),none⟩,⟨some 50,.load false none tS (.s 49),none⟩,⟨some 51,.sidx false tS (.s 37) (.s 38),none⟩,⟨none,.store tS [] (.s 51) (.s 46),none⟩,⟨some 52,.sidx false tS (.s 39) (.s 41),none⟩,⟨none,.store tS [] (.s 52) (.s 50),none⟩]
@[reducible] def slices_insertionSortCmpFunc.body : MC:=(.seq (.reg false slices_insertionSortCmpFunc.r0 [10,11]) (.block 0 (.loop [0,1,2,3,8] [] (.seq (.seq (.reg false slices_insertionSortCmpFunc.r1 [12,13]) (.cond (.s 14) .skip (.exit 0))) (.seq (.block 1 (.seq (.reg false slices_insertionSortCmpFunc.r3 [17]) (.block 2 (.loop [0,1,2,3,8,9] [] (.seq (.seq (.reg true slices_insertionSortCmpFunc.r4 [18,19,20,21,22,23,24,25,26,27,28,29,30,31,32,33]) (.cond (.s 34) .skip (.exit 2))) (.seq (.block 3 (.reg true slices_insertionSortCmpFunc.r6 [37,38,39,40,41,42,43,44,45,46,47,48,49,50,51,52])) (.reg false slices_insertionSortCmpFunc.r5 [35,36]))))))) (.reg false slices_insertionSortCmpFunc.r2 [15,16]))))))
@[reducible] def slices_insertionSortCmpFunc : MFun:={ params:=4,nfree:=0,res:=[],body:=slices_insertionSortCmpFunc.body }
@[reducible] def math_bits_Len64.r0 : List MOp:=[⟨some 2,.mov (.c (.int .i64 0)),none⟩]
@[reducible] def math_bits_Len64.r1 : List MOp:=[⟨some 3,.mov (.s 0),none⟩,⟨some 4,.bin .geq (.s 3) (.c (.int .u64 4294967296)),none⟩]
@[reducible] def math_bits_Len64.r2 : List MOp:=[⟨some 5,.mov (.s 0),none⟩,⟨some 6,.bin .shr (.s 5) (.c (.int .u64 32)),none⟩,⟨some 0,.mov (.s 6),none⟩]
@[reducible] def math_bits_Len64.r3 : List MOp:=[⟨some 2,.mov (.c (.int .i64 32)),none⟩]
@[reducible] def math_bits_Len64.r4 : List MOp:=[⟨some 7,.mov (.s 0),none⟩,⟨some 8,.bin .geq (.s 7) (.c (.int .u64 65536)),none⟩]
@[reducible] def math_bits_Len64.r5 : List MOp:=[⟨some 9,.mov (.s 0),none⟩,⟨some 10,.bin .shr (.s 9) (.c (.int .u64 16)),none⟩,⟨some 0,.mov (.s 10),none⟩]
@[reducible] def math_bits_Len64.r6 : List MOp:=[⟨some 11,.mov (.s 2),none⟩,⟨some 12,.bin .add (.s 11) (.c (.int .i64 16)),none⟩,⟨some 2,.mov (.s 12),none⟩]
@[reducible] def math_bits_Len64.r7 : List MOp:=[⟨some 13,.mov (.s 0),none⟩,⟨some 14,.bin .geq (.s 13) (.c (.int .u64 256)),none⟩]
@[reducible] def math_bits_Len64.r8 : List MOp:=[⟨some 15,.mov (.s 0),none⟩,⟨some 16,.bin .shr (.s 15) (.c (.int .u64 8)),none⟩,⟨some 0,.mov (.s 16),none⟩]
@[reducible] def math_bits_Len64.r9 : List MOp:=[⟨some 17,.mov (.s 2),none⟩,⟨some 18,.bin .add (.s 17) (.c (.int .i64 8)),none⟩,⟨some 2,.mov (.s 18),none⟩]
@[reducible] def math_bits_Len64.r10 : List MOp:=[⟨some 19,.mov (.s 2),none⟩,⟨some 20,.mov (.s 0),none⟩,⟨some 21,.conv .u8 (.s 20),none⟩,⟨some 22,.stridx (.c (.str ⟨#[0,1,2,2,3,3,3,3,4,4,4,4,4,4,4,4,5,5,5,5,5,5,5,5,5,5,5,5,5,5,5,5,6,6,6,6,6,6,6,6,6,6,6,6,6,6,6,6,6,6,6,6,6,6,6,6,6,6,6,6,6,6,6,6,7,7,7,7,7,7,7,7,7,7,7,7,7,7,7,7,7,7,7,7,7,7,7,7,7,7,7,7,7,7,7,7,7,7,7,7,7,7,7,7,7,7,7,7,7,7,7,7,7,7,7,7,7,7,7,7,7,7,7,7,7,7,7,7,8,8,8,8,8,8,8,8,8,8,8,8,8,8,8,8,8,8,8,8,8,8,8,8,8,8,8,8,8,8,8,8,8,8,8,8,8,8,8,8,8,8,8,8,8,8,8,8,8,8,8,8,8,8,8,8,8,8,8,8,8,8,8,8,8,8,8,8,8,8,8,8,8,8,8,8,8,8,8,8,8,8,8,8,8,8,8,8,8,8,8,8,8,8,8,8,8,8,8,8,8,8,8,8,8,8,8,8,8,8,8,8,8,8,8,8,8,8,8,8,8,8,8,8,8,8,8,8]⟩)) (.s 21),none⟩,⟨some 23,.conv .i64 (.s 22),none⟩,⟨some 24,.bin .add (.s 19) (.s 23),none⟩,⟨some 2,.mov (.s 24),none⟩]
@[reducible] def math_bits_Len64.body : MC:=(.seq (.reg false math_bits_Len64.r0 []) (.seq (.seq (.reg false math_bits_Len64.r1 [3]) (.cond (.s 4) (.seq (.reg false math_bits_Len64.r2 [5,6]) (.reg false math_bits_Len64.r3 [])) .skip)) (.seq (.seq (.reg false math_bits_Len64.r4 [7]) (.cond (.s 8) (.seq (.reg false math_bits_Len64.r5 [9,10]) (.reg false math_bits_Len64.r6 [11,12])) .skip)) (.seq (.seq (.reg false math_bits_Len64.r7 [13]) (.cond (.s 14) (.seq (.reg false math_bits_Len64.r8 [15,16]) (.reg false math_bits_Len64.r9 [17,18])) .skip)) (.seq (.reg false math_bits_Len64.r10 [0,19,20,21,22,23,24]) .ret)))))
@[reducible] def math_bits_Len64 : MFun:={ params:=1,nfree:=0,res:=[.tmp 2],body:=math_bits_Len64.body }
@[reducible] def soft_Files_Same.r0 : List MOp:=[⟨some 10,.mov (.c (.bool false)),none⟩]
@[reducible] def soft_Files_Same.r1 : List MOp:=[⟨some 13,.mov (.s 0),none⟩,⟨some 14,.nilck (.s 13),none⟩,⟨some 15,.fld tFiles 0 tP (.s 14),none⟩,⟨some 16,.load false none tP (.s 15),none⟩,⟨some 17,.nilck (.s 16),none⟩,⟨some 18,.fld tCache 0 tImage (.s 17),none⟩,⟨some 19,.mov (.s 1),none⟩,⟨some 20,.mov (.s 2),none⟩,⟨some 21,.call true [] 19 [(.s 18),(.s 19),(.s 20)],none⟩,⟨some 22,.mov (.s 0),none⟩,⟨some 23,.nilck (.s 22),none⟩,⟨some 24,.fld tFiles 0 tP (.s 23),none⟩,⟨some 25,.load false none tP (.s 24),none⟩,⟨some 26,.nilck (.s 25),none⟩,⟨some 27,.fld tCache 0 tImage (.s 26),none⟩,⟨some 28,.mov (.s 3),none⟩,⟨some 29,.mov (.s 4),none⟩,⟨some 30,.call false [] 19 [(.s 27),(.s 28),(.s 29)],none⟩,⟨some 11,.mov (.s 21),none⟩,⟨some 12,.mov (.s 30),none⟩]
@[reducible] def soft_Files_Same.r2 : List MOp:=[⟨some 31,.mov (.s 11),none⟩,⟨some 32,.bin .geq (.s 31) (.c (.int .i64 0)),none⟩,⟨some 33,.mov (.s 32),none⟩,⟨some 34,.mov (.s 12),some (33,true)⟩,⟨some 35,.bin .geq (.s 34) (.c (.int .i64 0)),some (33,true)⟩,⟨some 36,.pick (.s 33) (.s 35) (.c (.bool false)),none⟩,⟨some 37,.mov (.s 36),none⟩,⟨some 38,.mov (.s 0),some (37,true)⟩,⟨some 39,.nilck (.s 38),some (37,true)⟩,⟨some 40,.fld tFiles 0 tP (.s 39),some (37,true)⟩,⟨some 41,.load false none tP (.s 40),some (37,true)⟩,⟨some 42,.mov (.s 1),some (37,true)⟩,⟨some 43,.mov (.s 11),some (37,true)⟩,⟨some 44,.nilck (.s 41),some (37,true)⟩,⟨some 45,.fld tCache 0 tImage (.s 44),some (37,true)⟩,⟨some 46,.fld tImage 1 tDirs (.s 45),some (37,true)⟩,⟨some 47,.idx 3 tRow (.s 46) (.s 42),some (37,true)⟩,⟨some 48,.idx 4 tEntry (.s 47) (.s 43),some (37,true)⟩,⟨some 49,.fld tEntry 1 tI (.s 48),some (37,true)⟩,⟨some 50,.load false none tI (.s 49),some (37,true)⟩,⟨some 51,.mov (.s 0),some (37,true)⟩,⟨some 52,.nilck (.s 51),some (37,true)⟩,⟨some 53,.fld tFiles 0 tP (.s 52),some (37,true)⟩,⟨some 54,.load false none tP (.s 53),some (37,true)⟩,⟨some 55,.mov (.s 3),some (37,true)⟩,⟨some 56,.mov (.s 12),some (37,true)⟩,⟨some 57,.nilck (.s 54),some (37,true)⟩,⟨some 58,.fld tCache 0 tImage (.s 57),some (37,true)⟩,⟨some 59,.fld tImage 1 tDirs (.s 58),some (37,true)⟩,⟨some 60,.idx 3 tRow (.s 59) (.s 55),some (37,true)⟩,⟨some 61,.idx 4 tEntry (.s 60) (.s 56),some (37,true)⟩,⟨some 62,.fld tEntry 1 tI (.s 61),some (37,true)⟩,⟨some 63,.load false none tI (.s 62),some (37,true)⟩,⟨some 64,.bin .eql (.s 50) (.s 63),some (37,true)⟩,⟨some 65,.pick (.s 37) (.s 64) (.c (.bool false)),none⟩,⟨some 10,.mov (.s 65),none⟩]
@[reducible] def soft_Files_Same.body : MC:=(.seq (.reg false soft_Files_Same.r0 [10]) (.seq (.reg true soft_Files_Same.r1 [2,4,13,14,15,16,17,18,19,20,21,22,23,24,25,26,27,28,29,30]) (.seq (.reg true soft_Files_Same.r2 [0,1,3,11,12,31,32,33,34,35,36,37,38,39,40,41,42,43,44,45,46,47,48,49,50,51,52,53,54,55,56,57,58,59,60,61,62,63,64,65]) .ret)))
@[reducible] def soft_Files_Same : MFun:={ params:=5,nfree:=0,res:=[.tmp 10],body:=soft_Files_Same.body }
@[reducible] def soft_Files_Sure.r0 : List MOp:=[⟨some 6,.mov (.c (.bool false)),none⟩]
@[reducible] def soft_Files_Sure.r1 : List MOp:=[⟨some 9,.mov (.s 0),none⟩,⟨some 10,.nilck (.s 9),none⟩,⟨some 11,.fld tFiles 0 tP (.s 10),none⟩,⟨some 12,.load false none tP (.s 11),none⟩,⟨some 13,.nilck (.s 12),none⟩,⟨some 14,.fld tCache 0 tImage (.s 13),none⟩,⟨some 15,.mov (.s 1),none⟩,⟨some 16,.mov (.s 2),none⟩,⟨some 17,.call false [] 19 [(.s 14),(.s 15),(.s 16)],none⟩,⟨some 7,.mov (.s 17),none⟩]
@[reducible] def soft_Files_Sure.r2 : List MOp:=[⟨some 18,.mov (.s 0),none⟩,⟨some 19,.nilck (.s 18),none⟩,⟨some 20,.fld tFiles 0 tP (.s 19),none⟩,⟨some 21,.load false none tP (.s 20),none⟩,⟨some 22,.call false [] 203 [(.s 21)],none⟩,⟨some 8,.alloc false tImage,none⟩,⟨none,.store tImage [] (.s 8) (.s 22),none⟩]
@[reducible] def soft_Files_Sure.r3 : List MOp:=[⟨some 23,.mov (.s 7),none⟩,⟨some 24,.bin .geq (.s 23) (.c (.int .i64 0)),none⟩,⟨some 25,.mov (.s 24),none⟩,⟨some 26,.mov (.s 1),some (25,true)⟩,⟨some 27,.mov (.s 7),some (25,true)⟩,⟨some 28,.fld tImage 1 tDirs (.s 8),some (25,true)⟩,⟨some 29,.idx 3 tRow (.s 28) (.s 26),some (25,true)⟩,⟨some 30,.idx 4 tEntry (.s 29) (.s 27),some (25,true)⟩,⟨some 31,.load false none tEntry (.s 30),some (25,true)⟩,⟨some 32,.mov (.s 0),some (25,true)⟩,⟨some 33,.nilck (.s 32),some (25,true)⟩,⟨some 34,.fld tFiles 0 tP (.s 33),some (25,true)⟩,⟨some 35,.load false none tP (.s 34),some (25,true)⟩,⟨some 36,.mov (.s 1),some (25,true)⟩,⟨some 37,.mov (.s 7),some (25,true)⟩,⟨some 38,.nilck (.s 35),some (25,true)⟩,⟨some 39,.fld tCache 0 tImage (.s 38),some (25,true)⟩,⟨some 40,.fld tImage 1 tDirs (.s 39),some (25,true)⟩,⟨some 41,.idx 3 tRow (.s 40) (.s 36),some (25,true)⟩,⟨some 42,.idx 4 tEntry (.s 41) (.s 37),some (25,true)⟩,⟨some 43,.load false none tEntry (.s 42),some (25,true)⟩,⟨some 44,.eq false tEntry (.s 31) (.s 43),some (25,true)⟩,⟨some 45,.pick (.s 25) (.s 44) (.c (.bool false)),none⟩,⟨some 6,.mov (.s 45),none⟩]
@[reducible] def soft_Files_Sure.body : MC:=(.seq (.reg false soft_Files_Sure.r0 [6]) (.seq (.reg false soft_Files_Sure.r1 [2,9,10,11,12,13,14,15,16,17]) (.seq (.reg false soft_Files_Sure.r2 [18,19,20,21,22]) (.seq (.reg true soft_Files_Sure.r3 [0,1,7,8,23,24,25,26,27,28,29,30,31,32,33,34,35,36,37,38,39,40,41,42,43,44,45]) .ret))))
@[reducible] def soft_Files_Sure : MFun:={ params:=3,nfree:=0,res:=[.tmp 6],body:=soft_Files_Sure.body }
@[reducible] def soft_Files_Read.r0 : List MOp:=[⟨some 8,.mov (.c (.str ⟨#[]⟩)),none⟩,⟨some 9,.mov (.c (.bool false)),none⟩,⟨some 10,.mov (.c (.int .i64 0)),none⟩]
@[reducible] def soft_Files_Read.r1 : List MOp:=[⟨some 14,.mov (.s 1),none⟩,⟨some 15,.mov (.s 2),none⟩,⟨some 16,.mov (.s 3),none⟩,⟨some 17,.build tStep [(0,(.c (.int .i64 6))),(1,(.s 14)),(4,(.s 15)),(3,(.s 16))],none⟩,⟨some 18,.call false [] 216 [(.s 17)],none⟩,⟨some 11,.mov (.s 18),none⟩]
@[reducible] def soft_Files_Read.r2 : List MOp:=[⟨some 19,.mov (.s 11),none⟩,⟨some 20,.bin .neq (.s 19) (.c (.int .i64 0)),none⟩]
@[reducible] def soft_Files_Read.r3 : List MOp:=[⟨some 21,.mov (.s 11),none⟩,⟨some 8,.mov (.c (.str ⟨#[]⟩)),none⟩,⟨some 9,.mov (.c (.bool false)),none⟩,⟨some 10,.mov (.s 21),none⟩]
@[reducible] def soft_Files_Read.r4 : List MOp:=[⟨some 22,.mov (.s 0),none⟩,⟨some 23,.nilck (.s 22),none⟩,⟨some 24,.fld tFiles 0 tP (.s 23),none⟩,⟨some 25,.load false none tP (.s 24),none⟩,⟨some 26,.nilck (.s 25),none⟩,⟨some 27,.fld tCache 0 tImage (.s 26),none⟩,⟨some 28,.mov (.s 1),none⟩,⟨some 29,.mov (.s 2),none⟩,⟨some 30,.call false [] 19 [(.s 27),(.s 28),(.s 29)],none⟩,⟨some 12,.mov (.s 30),none⟩]
@[reducible] def soft_Files_Read.r5 : List MOp:=[⟨some 31,.mov (.s 12),none⟩,⟨some 32,.bin .lss (.s 31) (.c (.int .i64 0)),none⟩]
@[reducible] def soft_Files_Read.r6 : List MOp:=[⟨some 8,.mov (.c (.str ⟨#[]⟩)),none⟩,⟨some 9,.mov (.c (.bool false)),none⟩,⟨some 10,.mov (.c (.int .i64 5)),none⟩]
@[reducible] def soft_Files_Read.r7 : List MOp:=[⟨some 33,.mov (.s 0),none⟩,⟨some 34,.nilck (.s 33),none⟩,⟨some 35,.fld tFiles 0 tP (.s 34),none⟩,⟨some 36,.load false none tP (.s 35),none⟩,⟨some 37,.mov (.s 0),none⟩,⟨some 38,.nilck (.s 37),none⟩,⟨some 39,.fld tFiles 0 tP (.s 38),none⟩,⟨some 40,.load false none tP (.s 39),none⟩,⟨some 41,.mov (.s 1),none⟩,⟨some 42,.mov (.s 12),none⟩,⟨some 43,.nilck (.s 40),none⟩,⟨some 44,.fld tCache 0 tImage (.s 43),none⟩,⟨some 45,.fld tImage 1 tDirs (.s 44),none⟩,⟨some 46,.idx 3 tRow (.s 45) (.s 41),none⟩,⟨some 47,.idx 4 tEntry (.s 46) (.s 42),none⟩,⟨some 48,.fld tEntry 1 tI (.s 47),none⟩,⟨some 49,.load false none tI (.s 48),none⟩,⟨some 50,.mov (.s 3),none⟩,⟨some 51,.nilck (.s 36),none⟩,⟨some 52,.fld tCache 0 tImage (.s 51),none⟩,⟨some 53,.fld tImage 0 tInodes (.s 52),none⟩,⟨some 54,.idx 8 tInode (.s 53) (.s 49),none⟩,⟨some 55,.fld tInode 3 tParts (.s 54),none⟩,⟨some 56,.idx 2 tI (.s 55) (.s 50),none⟩,⟨some 57,.load false none tI (.s 56),none⟩,⟨some 13,.mov (.s 57),none⟩]
@[reducible] def soft_Files_Read.r8 : List MOp:=[⟨some 58,.mov (.s 13),none⟩,⟨some 59,.bin .lss (.s 58) (.c (.int .i64 0)),none⟩]
@[reducible] def soft_Files_Read.r9 : List MOp:=[⟨some 8,.mov (.c (.str ⟨#[]⟩)),none⟩,⟨some 9,.mov (.c (.bool false)),none⟩,⟨some 10,.mov (.c (.int .i64 0)),none⟩]
@[reducible] def soft_Files_Read.r10 : List MOp:=[⟨some 60,.mov (.s 0),none⟩,⟨some 61,.nilck (.s 60),none⟩,⟨some 62,.fld tFiles 0 tP (.s 61),none⟩,⟨some 63,.load false none tP (.s 62),none⟩,⟨some 64,.mov (.s 13),none⟩,⟨some 65,.nilck (.s 63),none⟩,⟨some 66,.fld tCache 0 tImage (.s 65),none⟩,⟨some 67,.fld tImage 2 tDatas (.s 66),none⟩,⟨some 68,.idx 9 tData (.s 67) (.s 64),none⟩,⟨some 69,.fld tData 1 tS (.s 68),none⟩,⟨some 70,.load false none tS (.s 69),none⟩,⟨some 8,.mov (.s 70),none⟩,⟨some 9,.mov (.c (.bool true)),none⟩,⟨some 10,.mov (.c (.int .i64 0)),none⟩]
@[reducible] def soft_Files_Read.body : MC:=(.seq (.reg false soft_Files_Read.r0 [8,9,10]) (.seq (.seq (.reg false soft_Files_Read.r1 [14,15,16,17,18]) (.seq (.reg false soft_Files_Read.r2 [19]) (.cond (.s 20) (.seq (.reg false soft_Files_Read.r3 [11,21]) .ret) .skip))) (.seq (.reg false soft_Files_Read.r4 [2,22,23,24,25,26,27,28,29,30]) (.seq (.seq (.reg false soft_Files_Read.r5 [31]) (.cond (.s 32) (.seq (.reg false soft_Files_Read.r6 []) .ret) .skip)) (.seq (.reg true soft_Files_Read.r7 [1,3,12,33,34,35,36,37,38,39,40,41,42,43,44,45,46,47,48,49,50,51,52,53,54,55,56,57]) (.seq (.seq (.reg false soft_Files_Read.r8 [58]) (.cond (.s 59) (.seq (.reg false soft_Files_Read.r9 []) .ret) .skip)) (.seq (.reg false soft_Files_Read.r10 [0,13,60,61,62,63,64,65,66,67,68,69,70]) .ret)))))))
@[reducible] def soft_Files_Read : MFun:={ params:=4,nfree:=0,res:=[.tmp 8,.tmp 9,.tmp 10],body:=soft_Files_Read.body }
@[reducible] def soft_Files_List.r0 : List MOp:=[⟨some 4,.mov (.c .nilsl),none⟩]
@[reducible] def soft_Files_List.r1 : List MOp:=[⟨some 5,.mov (.c .nilsl),none⟩]
@[reducible] def soft_Files_List.r2 : List MOp:=[⟨some 8,.mov (.s 1),none⟩,⟨some 9,.bin .lss (.s 8) (.c (.int .i64 0)),none⟩,⟨some 10,.mov (.s 9),none⟩,⟨some 11,.mov (.s 1),some (10,false)⟩,⟨some 12,.bin .geq (.s 11) (.c (.int .i64 3)),some (10,false)⟩,⟨some 13,.pick (.s 10) (.c (.bool true)) (.s 12),none⟩]
@[reducible] def soft_Files_List.r3 : List MOp:=[⟨some 4,.mov (.c .nilsl),none⟩]
@[reducible] def soft_Files_List.r4 : List MOp:=[⟨some 14,.mov (.s 0),none⟩,⟨some 15,.nilck (.s 14),none⟩,⟨some 16,.fld tFiles 0 tP (.s 15),none⟩,⟨some 17,.load false none tP (.s 16),none⟩,⟨some 18,.mov (.s 1),none⟩,⟨some 19,.nilck (.s 17),none⟩,⟨some 20,.fld tCache 0 tImage (.s 19),none⟩,⟨some 21,.fld tImage 1 tDirs (.s 20),none⟩,⟨some 22,.idx 3 tRow (.s 21) (.s 18),none⟩,⟨some 23,.load false none tRow (.s 22),none⟩,⟨some 24,.mov (.c (.int .i64 0)),none⟩]
@[reducible] def soft_Files_List.r5 : List MOp:=[⟨some 25,.bin .lss (.s 24) (.c (.int .i64 4)),none⟩]
@[reducible] def soft_Files_List.r6 : List MOp:=[⟨some 26,.aidx 4 tEntry (.s 23) (.s 24),none⟩,⟨some 7,.alloc false tEntry,none⟩,⟨none,.store tEntry [] (.s 7) (.s 26),none⟩]
@[reducible] def soft_Files_List.r7 : List MOp:=[⟨some 27,.fld tEntry 0 tS (.s 7),none⟩,⟨some 28,.load false none tS (.s 27),none⟩,⟨some 29,.bin .neq (.s 28) (.c (.str ⟨#[]⟩)),none⟩]
@[reducible] def soft_Files_List.r8 : List MOp:=[⟨some 30,.mov (.s 5),none⟩,⟨some 31,.fld tEntry 0 tS (.s 7),none⟩,⟨some 32,.load false none tS (.s 31),none⟩,⟨some 33,.bslice false tS 1 [(0,(.s 32))],none⟩,⟨some 34,.append true [] tS (.s 30) (.s 33),none⟩,⟨some 5,.mov (.s 34),none⟩]
@[reducible] def soft_Files_List.r9 : List MOp:=[⟨some 35,.bin .add (.s 24) (.c (.int .i64 1)),none⟩,⟨some 24,.mov (.s 35),none⟩]
@[reducible] def soft_Files_List.r10 : List MOp:=[⟨some 36,.mov (.s 5),none⟩,⟨some 37,.call false [] 236 [(.s 36),(.f 289)],none⟩]
@[reducible] def soft_Files_List.r11 : List MOp:=[⟨some 38,.mov (.s 5),none⟩,⟨some 4,.mov (.s 38),none⟩]
@[reducible] def soft_Files_List.body : MC:=(.seq (.reg false soft_Files_List.r0 [4]) (.seq (.reg false soft_Files_List.r1 []) (.seq (.seq (.reg false soft_Files_List.r2 [8,9,10,11,12]) (.cond (.s 13) (.seq (.reg false soft_Files_List.r3 []) .ret) .skip)) (.seq (.seq (.reg false soft_Files_List.r4 [0,1,14,15,16,17,18,19,20,21,22]) (.block 0 (.loop [5,23,24] [34] (.seq (.reg false soft_Files_List.r5 []) (.seq (.cond (.s 25) .skip (.exit 0)) (.seq (.block 1 (.seq (.reg false soft_Files_List.r6 [26]) (.seq (.reg false soft_Files_List.r7 [27,28]) (.cond (.s 29) (.reg false soft_Files_List.r8 [7,30,31,32,33,34]) .skip)))) (.reg false soft_Files_List.r9 [35]))))))) (.seq (.reg false soft_Files_List.r10 [36,37]) (.seq (.reg false soft_Files_List.r11 [5,38]) .ret))))))
@[reducible] def soft_Files_List : MFun:={ params:=2,nfree:=0,res:=[.tmp 4],body:=soft_Files_List.body }
@[reducible] def soft_Files_Do.r0 : List MOp:=[⟨some 3,.box false tStep (.s 1),none⟩,⟨some 4,.mov (.c (.int .i64 0)),none⟩]
@[reducible] def soft_Files_Do.r1 : List MOp:=[⟨some 9,.load false none tStep (.s 3),none⟩,⟨some 10,.call false [] 216 [(.s 9)],none⟩,⟨some 5,.mov (.s 10),none⟩]
@[reducible] def soft_Files_Do.r2 : List MOp:=[⟨some 11,.mov (.s 5),none⟩,⟨some 12,.bin .neq (.s 11) (.c (.int .i64 0)),none⟩]
@[reducible] def soft_Files_Do.r3 : List MOp:=[⟨some 13,.mov (.s 5),none⟩,⟨some 4,.mov (.s 13),none⟩]
@[reducible] def soft_Files_Do.r4 : List MOp:=[⟨some 14,.fld tStep 0 tI (.s 3),none⟩,⟨some 15,.load false none tI (.s 14),none⟩,⟨some 16,.bin .eql (.s 15) (.c (.int .i64 1)),none⟩]
@[reducible] def soft_Files_Do.r5 : List MOp:=[⟨some 17,.mov (.s 0),none⟩,⟨some 18,.fld tStep 1 tI (.s 3),none⟩,⟨some 19,.load false none tI (.s 18),none⟩,⟨some 20,.fld tStep 4 tS (.s 3),none⟩,⟨some 21,.load false none tS (.s 20),none⟩,⟨some 22,.call false [] 293 [(.s 17),(.s 19),(.s 21)],none⟩,⟨some 4,.mov (.s 22),none⟩]
@[reducible] def soft_Files_Do.r6 : List MOp:=[⟨some 23,.mov (.s 0),none⟩,⟨some 24,.nilck (.s 23),none⟩,⟨some 25,.fld tFiles 0 tP (.s 24),none⟩,⟨some 26,.load false none tP (.s 25),none⟩,⟨some 27,.nilck (.s 26),none⟩,⟨some 28,.fld tCache 0 tImage (.s 27),none⟩,⟨some 29,.fld tStep 1 tI (.s 3),none⟩,⟨some 30,.load false none tI (.s 29),none⟩,⟨some 31,.fld tStep 4 tS (.s 3),none⟩,⟨some 32,.load false none tS (.s 31),none⟩,⟨some 33,.call false [] 19 [(.s 28),(.s 30),(.s 32)],none⟩,⟨some 6,.mov (.s 33),none⟩]
@[reducible] def soft_Files_Do.r7 : List MOp:=[⟨some 34,.mov (.s 6),none⟩,⟨some 35,.bin .lss (.s 34) (.c (.int .i64 0)),none⟩]
@[reducible] def soft_Files_Do.r8 : List MOp:=[⟨some 4,.mov (.c (.int .i64 5)),none⟩]
@[reducible] def soft_Files_Do.r9 : List MOp:=[⟨some 36,.mov (.s 0),none⟩,⟨some 37,.nilck (.s 36),none⟩,⟨some 38,.fld tFiles 0 tP (.s 37),none⟩,⟨some 39,.load false none tP (.s 38),none⟩,⟨some 40,.fld tStep 1 tI (.s 3),none⟩,⟨some 41,.load false none tI (.s 40),none⟩,⟨some 42,.mov (.s 6),none⟩,⟨some 43,.nilck (.s 39),none⟩,⟨some 44,.fld tCache 0 tImage (.s 43),none⟩,⟨some 45,.fld tImage 1 tDirs (.s 44),none⟩,⟨some 46,.idx 3 tRow (.s 45) (.s 41),none⟩,⟨some 47,.idx 4 tEntry (.s 46) (.s 42),none⟩,⟨some 48,.fld tEntry 1 tI (.s 47),none⟩,⟨some 49,.load false none tI (.s 48),none⟩,⟨some 7,.mov (.s 49),none⟩]
@[reducible] def soft_Files_Do.r10 : List MOp:=[⟨some 50,.fld tStep 0 tI (.s 3),none⟩,⟨some 51,.load false none tI (.s 50),none⟩]
@[reducible] def soft_Files_Do.r11 : List MOp:=[⟨some 53,.bin .eql (.s 51) (.c (.int .i64 2)),none⟩,⟨some 52,.mov (.s 53),none⟩]
@[reducible] def soft_Files_Do.r12 : List MOp:=[⟨some 54,.mov (.s 0),none⟩,⟨some 55,.fld tStep 2 tI (.s 3),none⟩,⟨some 56,.load false none tI (.s 55),none⟩,⟨some 57,.fld tStep 5 tS (.s 3),none⟩,⟨some 58,.load false none tS (.s 57),none⟩,⟨some 59,.mov (.s 7),none⟩,⟨some 60,.call false [] 290 [(.s 54),(.s 56),(.s 58),(.s 59)],none⟩,⟨some 4,.mov (.s 60),none⟩]
@[reducible] def soft_Files_Do.r13 : List MOp:=[⟨some 62,.bin .eql (.s 51) (.c (.int .i64 4)),none⟩,⟨some 61,.mov (.s 62),none⟩]
@[reducible] def soft_Files_Do.r14 : List MOp:=[⟨some 63,.mov (.s 0),none⟩,⟨some 64,.fld tStep 2 tI (.s 3),none⟩,⟨some 65,.load false none tI (.s 64),none⟩,⟨some 66,.fld tStep 5 tS (.s 3),none⟩,⟨some 67,.load false none tS (.s 66),none⟩,⟨some 68,.mov (.s 7),none⟩,⟨some 69,.call false [] 290 [(.s 63),(.s 65),(.s 67),(.s 68)],none⟩,⟨some 8,.mov (.s 69),none⟩]
@[reducible] def soft_Files_Do.r15 : List MOp:=[⟨some 70,.mov (.s 8),none⟩,⟨some 71,.bin .neq (.s 70) (.c (.int .i64 0)),none⟩]
@[reducible] def soft_Files_Do.r16 : List MOp:=[⟨some 72,.mov (.s 8),none⟩,⟨some 4,.mov (.s 72),none⟩]
@[reducible] def soft_Files_Do.r17 : List MOp:=[⟨some 73,.mov (.s 0),none⟩,⟨some 74,.fld tStep 1 tI (.s 3),none⟩,⟨some 75,.load false none tI (.s 74),none⟩,⟨some 76,.mov (.s 6),none⟩,⟨some 77,.call false [] 291 [(.s 73),(.s 75),(.s 76)],none⟩]
@[reducible] def soft_Files_Do.r18 : List MOp:=[⟨some 79,.bin .eql (.s 51) (.c (.int .i64 3)),none⟩,⟨some 78,.mov (.s 79),none⟩]
@[reducible] def soft_Files_Do.r19 : List MOp:=[⟨some 80,.mov (.s 0),none⟩,⟨some 81,.fld tStep 1 tI (.s 3),none⟩,⟨some 82,.load false none tI (.s 81),none⟩,⟨some 83,.mov (.s 6),none⟩,⟨some 84,.call false [] 291 [(.s 80),(.s 82),(.s 83)],none⟩]
@[reducible] def soft_Files_Do.r20 : List MOp:=[⟨some 86,.bin .eql (.s 51) (.c (.int .i64 5)),none⟩,⟨some 85,.mov (.s 86),none⟩]
@[reducible] def soft_Files_Do.r21 : List MOp:=[⟨some 87,.mov (.s 0),none⟩,⟨some 88,.mov (.s 7),none⟩,⟨some 89,.fld tStep 3 tI (.s 3),none⟩,⟨some 90,.load false none tI (.s 89),none⟩,⟨some 91,.fld tStep 6 tS (.s 3),none⟩,⟨some 92,.load false none tS (.s 91),none⟩,⟨some 93,.call false [] 292 [(.s 87),(.s 88),(.s 90),(.s 92)],none⟩,⟨some 4,.mov (.s 93),none⟩]
@[reducible] def soft_Files_Do.r22 : List MOp:=[⟨some 95,.bin .eql (.s 51) (.c (.int .i64 6)),none⟩,⟨some 94,.mov (.s 95),none⟩]
@[reducible] def soft_Files_Do.r23 : List MOp:=[⟨some 96,.mov (.s 0),none⟩,⟨some 97,.nilck (.s 96),none⟩,⟨some 98,.fld tFiles 0 tP (.s 97),none⟩,⟨some 99,.load false none tP (.s 98),none⟩,⟨some 100,.mov (.s 7),none⟩,⟨some 101,.fld tStep 3 tI (.s 3),none⟩,⟨some 102,.load false none tI (.s 101),none⟩,⟨some 103,.nilck (.s 99),none⟩,⟨some 104,.fld tCache 0 tImage (.s 103),none⟩,⟨some 105,.fld tImage 0 tInodes (.s 104),none⟩,⟨some 106,.idx 8 tInode (.s 105) (.s 100),none⟩,⟨some 107,.fld tInode 3 tParts (.s 106),none⟩,⟨some 108,.idx 2 tI (.s 107) (.s 102),none⟩,⟨none,.store tI [] (.s 108) (.c (.int .i64 (-1))),none⟩]
@[reducible] def soft_Files_Do.r24 : List MOp:=[⟨some 4,.mov (.c (.int .i64 0)),none⟩]
@[reducible] def soft_Files_Do.body : MC:=(.seq (.reg false soft_Files_Do.r0 [1,4]) (.seq (.seq (.reg false soft_Files_Do.r1 [9,10]) (.seq (.reg false soft_Files_Do.r2 [11]) (.cond (.s 12) (.seq (.reg false soft_Files_Do.r3 [5,13]) .ret) .skip))) (.seq (.seq (.reg false soft_Files_Do.r4 [14,15]) (.cond (.s 16) (.seq (.reg false soft_Files_Do.r5 [0,3,17,18,19,20,21,22]) .ret) .skip)) (.seq (.reg true soft_Files_Do.r6 [23,24,25,26,27,28,29,30,31,32,33]) (.seq (.seq (.reg false soft_Files_Do.r7 [34]) (.cond (.s 35) (.seq (.reg false soft_Files_Do.r8 []) .ret) .skip)) (.seq (.reg true soft_Files_Do.r9 [36,37,38,39,40,41,42,43,44,45,46,47,48,49]) (.seq (.seq (.reg false soft_Files_Do.r10 [50]) (.block 0 (.seq (.reg false soft_Files_Do.r11 [53]) (.cond (.s 52) (.seq (.reg false soft_Files_Do.r12 [0,3,7,54,55,56,57,58,59,60]) .ret) (.seq (.reg false soft_Files_Do.r13 [62]) (.cond (.s 61) (.seq (.seq (.reg false soft_Files_Do.r14 [7,63,64,65,66,67,68,69]) (.seq (.reg false soft_Files_Do.r15 [70]) (.cond (.s 71) (.seq (.reg false soft_Files_Do.r16 [8,72]) .ret) .skip))) (.reg false soft_Files_Do.r17 [0,3,6,73,74,75,76,77])) (.seq (.reg false soft_Files_Do.r18 [79]) (.cond (.s 78) (.reg false soft_Files_Do.r19 [0,3,6,80,81,82,83,84]) (.seq (.reg false soft_Files_Do.r20 [86]) (.cond (.s 85) (.seq (.reg false soft_Files_Do.r21 [0,3,7,87,88,89,90,91,92,93]) .ret) (.seq (.reg false soft_Files_Do.r22 [51,95]) (.cond (.s 94) (.reg true soft_Files_Do.r23 [0,3,7,96,97,98,99,100,101,102,103,104,105,106,107,108]) .skip)))))))))))) (.seq (.reg false soft_Files_Do.r24 []) .ret))))))))
@[reducible] def soft_Files_Do : MFun:={ params:=2,nfree:=0,res:=[.tmp 4],body:=soft_Files_Do.body }
@[reducible] def soft_New.r0 : List MOp:=[⟨some 0,.mov (.c .nilp),none⟩]
@[reducible] def soft_New.r1 : List MOp:=[⟨some 1,.call false [] 231 [],none⟩,⟨some 2,.build tFiles [(0,(.s 1))],none⟩,⟨some 3,.box true tFiles (.s 2),none⟩,⟨some 0,.mov (.s 3),none⟩]
@[reducible] def soft_New.body : MC:=(.seq (.reg false soft_New.r0 [0]) (.seq (.reg false soft_New.r1 [1,2,3]) .ret))
@[reducible] def soft_New : MFun:={ params:=0,nfree:=0,res:=[.tmp 0],body:=soft_New.body }
@[reducible] def life_Life_Step.r0 : List MOp:=[⟨some 3,.box false tStep (.s 1),none⟩,⟨some 4,.mov (.c (.int .i64 0)),none⟩]
@[reducible] def life_Life_Step.r1 : List MOp:=[⟨some 5,.fld tStep 0 tI (.s 3),none⟩,⟨some 6,.load false none tI (.s 5),none⟩]
@[reducible] def life_Life_Step.r2 : List MOp:=[⟨some 8,.bin .eql (.s 6) (.c (.int .i64 7)),none⟩,⟨some 7,.mov (.s 8),none⟩]
@[reducible] def life_Life_Step.r3 : List MOp:=[⟨some 9,.mov (.s 0),none⟩,⟨some 10,.nilck (.s 9),none⟩,⟨some 11,.fld tLife 0 tP (.s 10),none⟩,⟨some 12,.load false none tP (.s 11),none⟩,⟨some 13,.nilck (.s 12),none⟩,⟨some 14,.fld tFiles 0 tP (.s 13),none⟩,⟨some 15,.load false none tP (.s 14),none⟩,⟨some 16,.fld tStep 3 tI (.s 3),none⟩,⟨some 17,.load false none tI (.s 16),none⟩,⟨some 18,.call false [] 212 [(.s 15),(.s 17)],none⟩,⟨some 19,.un .not (.s 18),none⟩]
@[reducible] def life_Life_Step.r4 : List MOp:=[⟨some 4,.mov (.c (.int .i64 1)),none⟩]
@[reducible] def life_Life_Step.r5 : List MOp:=[⟨some 4,.mov (.c (.int .i64 0)),none⟩]
@[reducible] def life_Life_Step.r6 : List MOp:=[⟨some 21,.bin .eql (.s 6) (.c (.int .i64 8)),none⟩,⟨some 20,.mov (.s 21),none⟩]
@[reducible] def life_Life_Step.r7 : List MOp:=[⟨some 22,.mov (.s 0),none⟩,⟨some 23,.nilck (.s 22),none⟩,⟨some 24,.fld tLife 0 tP (.s 23),none⟩,⟨some 25,.load false none tP (.s 24),none⟩,⟨some 26,.nilck (.s 25),none⟩,⟨some 27,.fld tFiles 0 tP (.s 26),none⟩,⟨some 28,.load false none tP (.s 27),none⟩,⟨some 29,.call false [] 201 [(.s 28)],none⟩]
@[reducible] def life_Life_Step.r8 : List MOp:=[⟨some 4,.mov (.c (.int .i64 0)),none⟩]
@[reducible] def life_Life_Step.r9 : List MOp:=[⟨some 31,.bin .eql (.s 6) (.c (.int .i64 9)),none⟩,⟨some 30,.mov (.s 31),none⟩]
@[reducible] def life_Life_Step.r10 : List MOp:=[⟨some 32,.mov (.s 0),none⟩,⟨some 33,.call false [] 294 [(.s 32)],none⟩,⟨some 4,.mov (.s 33),none⟩]
@[reducible] def life_Life_Step.r11 : List MOp:=[⟨some 34,.mov (.s 0),none⟩,⟨some 35,.nilck (.s 34),none⟩,⟨some 36,.fld tLife 0 tP (.s 35),none⟩,⟨some 37,.load false none tP (.s 36),none⟩,⟨some 38,.load false none tStep (.s 3),none⟩,⟨some 39,.call false [] 275 [(.s 37),(.s 38)],none⟩,⟨some 4,.mov (.s 39),none⟩]
@[reducible] def life_Life_Step.body : MC:=(.seq (.reg false life_Life_Step.r0 [1,4]) (.seq (.seq (.reg false life_Life_Step.r1 [5]) (.block 0 (.seq (.reg false life_Life_Step.r2 [8]) (.cond (.s 7) (.seq (.seq (.reg true life_Life_Step.r3 [0,3,9,10,11,12,13,14,15,16,17,18]) (.cond (.s 19) (.seq (.reg false life_Life_Step.r4 []) .ret) .skip)) (.seq (.reg false life_Life_Step.r5 []) .ret)) (.seq (.reg false life_Life_Step.r6 [21]) (.cond (.s 20) (.seq (.reg false life_Life_Step.r7 [0,22,23,24,25,26,27,28,29]) (.seq (.reg false life_Life_Step.r8 []) .ret)) (.seq (.reg false life_Life_Step.r9 [6,31]) (.cond (.s 30) (.seq (.reg false life_Life_Step.r10 [0,32,33]) .ret) .skip)))))))) (.seq (.reg true life_Life_Step.r11 [0,3,34,35,36,37,38,39]) .ret)))
@[reducible] def life_Life_Step : MFun:={ params:=2,nfree:=0,res:=[.tmp 4],body:=life_Life_Step.body }
@[reducible] def life_Life_Crashes.r0 : List MOp:=[⟨some 2,.mov (.c (.int .i64 0)),none⟩]
@[reducible] def life_Life_Crashes.r1 : List MOp:=[⟨some 3,.mov (.s 0),none⟩,⟨some 4,.nilck (.s 3),none⟩,⟨some 5,.fld tLife 2 tI (.s 4),none⟩,⟨some 6,.load false none tI (.s 5),none⟩,⟨some 2,.mov (.s 6),none⟩]
@[reducible] def life_Life_Crashes.body : MC:=(.seq (.reg false life_Life_Crashes.r0 [2]) (.seq (.reg false life_Life_Crashes.r1 [0,3,4,5,6]) .ret))
@[reducible] def life_Life_Crashes : MFun:={ params:=1,nfree:=0,res:=[.tmp 2],body:=life_Life_Crashes.body }
@[reducible] def life_Life_Lost.r0 : List MOp:=[⟨some 2,.alloc false tLost,none⟩]
@[reducible] def life_Life_Lost.r1 : List MOp:=[⟨some 3,.mov (.s 0),none⟩,⟨some 4,.nilck (.s 3),none⟩,⟨some 5,.fld tLife 1 tLost (.s 4),none⟩,⟨some 6,.load false none tLost (.s 5),none⟩,⟨none,.store tLost [] (.s 2) (.s 6),none⟩]
@[reducible] def life_Life_Lost.body : MC:=(.seq (.reg false life_Life_Lost.r0 []) (.seq (.reg false life_Life_Lost.r1 [0,3,4,5,6]) .ret))
@[reducible] def life_Life_Lost : MFun:={ params:=1,nfree:=0,res:=[.cell 2 tLost],body:=life_Life_Lost.body }
@[reducible] def life_New.r0 : List MOp:=[⟨some 0,.mov (.c .nilp),none⟩]
@[reducible] def life_New.r1 : List MOp:=[⟨some 1,.call false [] 276 [],none⟩,⟨some 2,.build tLife [(0,(.s 1))],none⟩,⟨some 3,.box true tLife (.s 2),none⟩,⟨some 0,.mov (.s 3),none⟩]
@[reducible] def life_New.body : MC:=(.seq (.reg false life_New.r0 [0]) (.seq (.reg false life_New.r1 [1,2,3]) .ret))
@[reducible] def life_New : MFun:={ params:=0,nfree:=0,res:=[.tmp 0],body:=life_New.body }
@[reducible] def soft_Files_List_1.r0 : List MOp:=[⟨some 4,.mov (.c (.int .i64 0)),none⟩]
@[reducible] def soft_Files_List_1.r1 : List MOp:=[⟨some 5,.mov (.s 0),none⟩,⟨some 6,.mov (.s 1),none⟩,⟨some 7,.call false [] 242 [(.s 5),(.s 6)],none⟩,⟨some 4,.mov (.s 7),none⟩]
@[reducible] def soft_Files_List_1.body : MC:=(.seq (.reg false soft_Files_List_1.r0 [4]) (.seq (.reg false soft_Files_List_1.r1 [0,1,5,6,7]) .ret))
@[reducible] def soft_Files_List_1 : MFun:={ params:=2,nfree:=0,res:=[.tmp 4],body:=soft_Files_List_1.body }
@[reducible] def soft_Files_enter.r0 : List MOp:=[⟨some 8,.mov (.c (.int .i64 0)),none⟩]
@[reducible] def soft_Files_enter.r1 : List MOp:=[⟨some 10,.mov (.s 0),none⟩,⟨some 11,.nilck (.s 10),none⟩,⟨some 12,.fld tFiles 0 tP (.s 11),none⟩,⟨some 13,.load false none tP (.s 12),none⟩,⟨some 14,.nilck (.s 13),none⟩,⟨some 15,.fld tCache 0 tImage (.s 14),none⟩,⟨some 16,.mov (.s 1),none⟩,⟨some 17,.mov (.s 2),none⟩,⟨some 18,.call false [] 19 [(.s 15),(.s 16),(.s 17)],none⟩,⟨some 19,.bin .geq (.s 18) (.c (.int .i64 0)),none⟩]
@[reducible] def soft_Files_enter.r2 : List MOp:=[⟨some 8,.mov (.c (.int .i64 4)),none⟩]
@[reducible] def soft_Files_enter.r3 : List MOp:=[⟨some 20,.mov (.s 0),none⟩,⟨some 21,.mov (.s 1),none⟩,⟨some 22,.mov (.s 2),none⟩,⟨some 23,.call false [] 297 [(.s 20),(.s 21),(.s 22)],none⟩,⟨some 9,.mov (.s 23),none⟩]
@[reducible] def soft_Files_enter.r4 : List MOp:=[⟨some 24,.mov (.s 9),none⟩,⟨some 25,.bin .lss (.s 24) (.c (.int .i64 0)),none⟩]
@[reducible] def soft_Files_enter.r5 : List MOp:=[⟨some 8,.mov (.c (.int .i64 6)),none⟩]
@[reducible] def soft_Files_enter.r6 : List MOp:=[⟨some 26,.mov (.s 0),none⟩,⟨some 27,.nilck (.s 26),none⟩,⟨some 28,.fld tFiles 0 tP (.s 27),none⟩,⟨some 29,.load false none tP (.s 28),none⟩,⟨some 30,.mov (.s 1),none⟩,⟨some 31,.mov (.s 9),none⟩,⟨some 32,.mov (.s 2),none⟩,⟨some 33,.mov (.s 3),none⟩,⟨some 34,.mov (.s 0),none⟩,⟨some 35,.nilck (.s 34),none⟩,⟨some 36,.fld tFiles 0 tP (.s 35),none⟩,⟨some 37,.load false none tP (.s 36),none⟩,⟨some 38,.mov (.s 3),none⟩,⟨some 39,.nilck (.s 37),none⟩,⟨some 40,.fld tCache 0 tImage (.s 39),none⟩,⟨some 41,.fld tImage 0 tInodes (.s 40),none⟩,⟨some 42,.idx 8 tInode (.s 41) (.s 38),none⟩,⟨some 43,.fld tInode 1 tI (.s 42),none⟩,⟨some 44,.load false none tI (.s 43),none⟩,⟨some 45,.build tEntry [(0,(.s 32)),(1,(.s 33)),(2,(.s 44))],none⟩,⟨some 46,.nilck (.s 29),none⟩,⟨some 47,.fld tCache 0 tImage (.s 46),none⟩,⟨some 48,.fld tImage 1 tDirs (.s 47),none⟩,⟨some 49,.idx 3 tRow (.s 48) (.s 30),none⟩,⟨some 50,.idx 4 tEntry (.s 49) (.s 31),none⟩,⟨none,.store tEntry [] (.s 50) (.s 45),none⟩]
@[reducible] def soft_Files_enter.r7 : List MOp:=[⟨some 51,.mov (.s 0),none⟩,⟨some 52,.nilck (.s 51),none⟩,⟨some 53,.fld tFiles 0 tP (.s 52),none⟩,⟨some 54,.load false none tP (.s 53),none⟩,⟨some 55,.mov (.s 3),none⟩,⟨some 56,.nilck (.s 54),none⟩,⟨some 57,.fld tCache 0 tImage (.s 56),none⟩,⟨some 58,.fld tImage 0 tInodes (.s 57),none⟩,⟨some 59,.idx 8 tInode (.s 58) (.s 55),none⟩,⟨some 60,.fld tInode 2 tI (.s 59),none⟩,⟨some 61,.load false none tI (.s 60),none⟩,⟨some 62,.bin .add (.s 61) (.c (.int .i64 1)),none⟩,⟨some 63,.nilck (.s 54),none⟩,⟨some 64,.fld tCache 0 tImage (.s 63),none⟩,⟨some 65,.fld tImage 0 tInodes (.s 64),none⟩,⟨some 66,.idx 8 tInode (.s 65) (.s 55),none⟩,⟨some 67,.fld tInode 2 tI (.s 66),none⟩,⟨none,.store tI [] (.s 67) (.s 62),none⟩]
@[reducible] def soft_Files_enter.r8 : List MOp:=[⟨some 8,.mov (.c (.int .i64 0)),none⟩]
@[reducible] def soft_Files_enter.body : MC:=(.seq (.reg false soft_Files_enter.r0 [8]) (.seq (.seq (.reg false soft_Files_enter.r1 [10,11,12,13,14,15,16,17,18]) (.cond (.s 19) (.seq (.reg false soft_Files_enter.r2 []) .ret) .skip)) (.seq (.reg false soft_Files_enter.r3 [20,21,22,23]) (.seq (.seq (.reg false soft_Files_enter.r4 [24]) (.cond (.s 25) (.seq (.reg false soft_Files_enter.r5 []) .ret) .skip)) (.seq (.reg true soft_Files_enter.r6 [1,2,9,26,27,28,29,30,31,32,33,34,35,36,37,38,39,40,41,42,43,44,45,46,47,48,49,50]) (.seq (.reg true soft_Files_enter.r7 [0,3,51,52,53,54,55,56,57,58,59,60,61,62,63,64,65,66,67]) (.seq (.reg false soft_Files_enter.r8 []) .ret)))))))
@[reducible] def soft_Files_enter : MFun:={ params:=4,nfree:=0,res:=[.tmp 8],body:=soft_Files_enter.body }
@[reducible] def soft_Files_leave.r0 : List MOp:=[⟨some 7,.mov (.s 0),none⟩,⟨some 8,.nilck (.s 7),none⟩,⟨some 9,.fld tFiles 0 tP (.s 8),none⟩,⟨some 10,.load false none tP (.s 9),none⟩,⟨some 11,.mov (.s 1),none⟩,⟨some 12,.mov (.s 2),none⟩,⟨some 13,.nilck (.s 10),none⟩,⟨some 14,.fld tCache 0 tImage (.s 13),none⟩,⟨some 15,.fld tImage 1 tDirs (.s 14),none⟩,⟨some 16,.idx 3 tRow (.s 15) (.s 11),none⟩,⟨some 17,.idx 4 tEntry (.s 16) (.s 12),none⟩,⟨some 18,.fld tEntry 1 tI (.s 17),none⟩,⟨some 19,.load false none tI (.s 18),none⟩,⟨some 6,.mov (.s 19),none⟩]
@[reducible] def soft_Files_leave.r1 : List MOp:=[⟨some 20,.mov (.s 0),none⟩,⟨some 21,.nilck (.s 20),none⟩,⟨some 22,.fld tFiles 0 tP (.s 21),none⟩,⟨some 23,.load false none tP (.s 22),none⟩,⟨some 24,.mov (.s 1),none⟩,⟨some 25,.mov (.s 2),none⟩,⟨some 26,.build tEntry [],none⟩,⟨some 27,.nilck (.s 23),none⟩,⟨some 28,.fld tCache 0 tImage (.s 27),none⟩,⟨some 29,.fld tImage 1 tDirs (.s 28),none⟩,⟨some 30,.idx 3 tRow (.s 29) (.s 24),none⟩,⟨some 31,.idx 4 tEntry (.s 30) (.s 25),none⟩,⟨none,.store tEntry [] (.s 31) (.s 26),none⟩]
@[reducible] def soft_Files_leave.r2 : List MOp:=[⟨some 32,.mov (.s 0),none⟩,⟨some 33,.nilck (.s 32),none⟩,⟨some 34,.fld tFiles 0 tP (.s 33),none⟩,⟨some 35,.load false none tP (.s 34),none⟩,⟨some 36,.mov (.s 6),none⟩,⟨some 37,.nilck (.s 35),none⟩,⟨some 38,.fld tCache 0 tImage (.s 37),none⟩,⟨some 39,.fld tImage 0 tInodes (.s 38),none⟩,⟨some 40,.idx 8 tInode (.s 39) (.s 36),none⟩,⟨some 41,.fld tInode 2 tI (.s 40),none⟩,⟨some 42,.load false none tI (.s 41),none⟩,⟨some 43,.bin .sub (.s 42) (.c (.int .i64 1)),none⟩,⟨some 44,.nilck (.s 35),none⟩,⟨some 45,.fld tCache 0 tImage (.s 44),none⟩,⟨some 46,.fld tImage 0 tInodes (.s 45),none⟩,⟨some 47,.idx 8 tInode (.s 46) (.s 36),none⟩,⟨some 48,.fld tInode 2 tI (.s 47),none⟩,⟨none,.store tI [] (.s 48) (.s 43),none⟩]
@[reducible] def soft_Files_leave.r3 : List MOp:=[⟨some 49,.mov (.s 0),none⟩,⟨some 50,.nilck (.s 49),none⟩,⟨some 51,.fld tFiles 0 tP (.s 50),none⟩,⟨some 52,.load false none tP (.s 51),none⟩,⟨some 53,.mov (.s 6),none⟩,⟨some 54,.nilck (.s 52),none⟩,⟨some 55,.fld tCache 0 tImage (.s 54),none⟩,⟨some 56,.fld tImage 0 tInodes (.s 55),none⟩,⟨some 57,.idx 8 tInode (.s 56) (.s 53),none⟩,⟨some 58,.fld tInode 2 tI (.s 57),none⟩,⟨some 59,.load false none tI (.s 58),none⟩,⟨some 60,.bin .eql (.s 59) (.c (.int .i64 0)),none⟩]
@[reducible] def soft_Files_leave.r4 : List MOp:=[⟨some 61,.mov (.s 0),none⟩,⟨some 62,.nilck (.s 61),none⟩,⟨some 63,.fld tFiles 0 tP (.s 62),none⟩,⟨some 64,.load false none tP (.s 63),none⟩,⟨some 65,.mov (.s 6),none⟩,⟨some 66,.call true [] 33 [],none⟩,⟨some 67,.nilck (.s 64),none⟩,⟨some 68,.fld tCache 0 tImage (.s 67),none⟩,⟨some 69,.fld tImage 0 tInodes (.s 68),none⟩,⟨some 70,.idx 8 tInode (.s 69) (.s 65),none⟩,⟨none,.store tInode [] (.s 70) (.s 66),none⟩]
@[reducible] def soft_Files_leave.body : MC:=(.seq (.reg false soft_Files_leave.r0 [7,8,9,10,11,12,13,14,15,16,17,18,19]) (.seq (.reg false soft_Files_leave.r1 [1,2,20,21,22,23,24,25,26,27,28,29,30,31]) (.seq (.reg true soft_Files_leave.r2 [32,33,34,35,36,37,38,39,40,41,42,43,44,45,46,47,48]) (.seq (.reg false soft_Files_leave.r3 [49,50,51,52,53,54,55,56,57,58,59]) (.cond (.s 60) (.reg true soft_Files_leave.r4 [0,6,61,62,63,64,65,66,67,68,69,70]) .skip)))))
@[reducible] def soft_Files_leave : MFun:={ params:=3,nfree:=0,res:=[],body:=soft_Files_leave.body }
@[reducible] def soft_Files_put.r0 : List MOp:=[⟨some 8,.mov (.c (.int .i64 0)),none⟩]
@[reducible] def soft_Files_put.r1 : List MOp:=[⟨some 11,.mov (.s 0),none⟩,⟨some 12,.nilck (.s 11),none⟩,⟨some 13,.fld tFiles 0 tP (.s 12),none⟩,⟨some 14,.load false none tP (.s 13),none⟩,⟨some 15,.mov (.s 1),none⟩,⟨some 16,.nilck (.s 14),none⟩,⟨some 17,.fld tCache 0 tImage (.s 16),none⟩,⟨some 18,.fld tImage 0 tInodes (.s 17),none⟩,⟨some 19,.idx 8 tInode (.s 18) (.s 15),none⟩,⟨some 9,.mov (.s 19),none⟩]
@[reducible] def soft_Files_put.r2 : List MOp:=[⟨some 20,.mov (.s 9),none⟩,⟨some 21,.mov (.s 2),none⟩,⟨some 22,.nilck (.s 20),none⟩,⟨some 23,.fld tInode 3 tParts (.s 22),none⟩,⟨some 24,.idx 2 tI (.s 23) (.s 21),none⟩,⟨some 25,.load false none tI (.s 24),none⟩,⟨some 26,.bin .lss (.s 25) (.c (.int .i64 0)),none⟩]
@[reducible] def soft_Files_put.r3 : List MOp:=[⟨some 27,.mov (.s 0),none⟩,⟨some 28,.nilck (.s 27),none⟩,⟨some 29,.fld tFiles 0 tP (.s 28),none⟩,⟨some 30,.load false none tP (.s 29),none⟩,⟨some 31,.call false [] 209 [(.s 30)],none⟩,⟨some 10,.mov (.s 31),none⟩]
@[reducible] def soft_Files_put.r4 : List MOp:=[⟨some 32,.mov (.s 10),none⟩,⟨some 33,.bin .lss (.s 32) (.c (.int .i64 0)),none⟩]
@[reducible] def soft_Files_put.r5 : List MOp:=[⟨some 8,.mov (.c (.int .i64 6)),none⟩]
@[reducible] def soft_Files_put.r6 : List MOp:=[⟨some 34,.mov (.s 9),none⟩,⟨some 35,.mov (.s 2),none⟩,⟨some 36,.mov (.s 10),none⟩,⟨some 37,.nilck (.s 34),none⟩,⟨some 38,.fld tInode 3 tParts (.s 37),none⟩,⟨some 39,.idx 2 tI (.s 38) (.s 35),none⟩,⟨none,.store tI [] (.s 39) (.s 36),none⟩]
@[reducible] def soft_Files_put.r7 : List MOp:=[⟨some 40,.mov (.s 0),none⟩,⟨some 41,.nilck (.s 40),none⟩,⟨some 42,.fld tFiles 0 tP (.s 41),none⟩,⟨some 43,.load false none tP (.s 42),none⟩,⟨some 44,.mov (.s 9),none⟩,⟨some 45,.mov (.s 2),none⟩,⟨some 46,.nilck (.s 44),none⟩,⟨some 47,.fld tInode 3 tParts (.s 46),none⟩,⟨some 48,.idx 2 tI (.s 47) (.s 45),none⟩,⟨some 49,.load false none tI (.s 48),none⟩,⟨some 50,.mov (.s 9),none⟩,⟨some 51,.nilck (.s 50),none⟩,⟨some 52,.fld tInode 1 tI (.s 51),none⟩,⟨some 53,.load false none tI (.s 52),none⟩,⟨some 54,.mov (.s 3),none⟩,⟨some 55,.build tData [(0,(.s 53)),(1,(.s 54))],none⟩,⟨some 56,.nilck (.s 43),none⟩,⟨some 57,.fld tCache 0 tImage (.s 56),none⟩,⟨some 58,.fld tImage 2 tDatas (.s 57),none⟩,⟨some 59,.idx 9 tData (.s 58) (.s 49),none⟩,⟨none,.store tData [] (.s 59) (.s 55),none⟩]
@[reducible] def soft_Files_put.r8 : List MOp:=[⟨some 8,.mov (.c (.int .i64 0)),none⟩]
@[reducible] def soft_Files_put.body : MC:=(.seq (.reg false soft_Files_put.r0 [8]) (.seq (.reg false soft_Files_put.r1 [1,11,12,13,14,15,16,17,18,19]) (.seq (.seq (.reg false soft_Files_put.r2 [20,21,22,23,24,25]) (.cond (.s 26) (.seq (.reg false soft_Files_put.r3 [27,28,29,30,31]) (.seq (.seq (.reg false soft_Files_put.r4 [32]) (.cond (.s 33) (.seq (.reg false soft_Files_put.r5 []) .ret) .skip)) (.reg false soft_Files_put.r6 [10,34,35,36,37,38,39]))) .skip)) (.seq (.reg true soft_Files_put.r7 [0,2,3,9,40,41,42,43,44,45,46,47,48,49,50,51,52,53,54,55,56,57,58,59]) (.seq (.reg false soft_Files_put.r8 []) .ret)))))
@[reducible] def soft_Files_put : MFun:={ params:=4,nfree:=0,res:=[.tmp 8],body:=soft_Files_put.body }
@[reducible] def soft_Files_make.r0 : List MOp:=[⟨some 6,.mov (.c (.int .i64 0)),none⟩]
@[reducible] def soft_Files_make.r1 : List MOp:=[⟨some 8,.mov (.s 0),none⟩,⟨some 9,.nilck (.s 8),none⟩,⟨some 10,.fld tFiles 0 tP (.s 9),none⟩,⟨some 11,.load false none tP (.s 10),none⟩,⟨some 12,.nilck (.s 11),none⟩,⟨some 13,.fld tCache 0 tImage (.s 12),none⟩,⟨some 14,.mov (.s 1),none⟩,⟨some 15,.mov (.s 2),none⟩,⟨some 16,.call false [] 19 [(.s 13),(.s 14),(.s 15)],none⟩,⟨some 17,.bin .geq (.s 16) (.c (.int .i64 0)),none⟩]
@[reducible] def soft_Files_make.r2 : List MOp:=[⟨some 6,.mov (.c (.int .i64 4)),none⟩]
@[reducible] def soft_Files_make.r3 : List MOp:=[⟨some 18,.mov (.s 0),none⟩,⟨some 19,.nilck (.s 18),none⟩,⟨some 20,.fld tFiles 0 tP (.s 19),none⟩,⟨some 21,.load false none tP (.s 20),none⟩,⟨some 22,.call false [] 205 [(.s 21)],none⟩,⟨some 7,.mov (.s 22),none⟩]
@[reducible] def soft_Files_make.r4 : List MOp:=[⟨some 23,.mov (.s 7),none⟩,⟨some 24,.bin .lss (.s 23) (.c (.int .i64 0)),none⟩,⟨some 25,.mov (.s 24),none⟩,⟨some 26,.mov (.s 0),some (25,false)⟩,⟨some 27,.mov (.s 1),some (25,false)⟩,⟨some 28,.mov (.s 2),some (25,false)⟩,⟨some 29,.call false [] 297 [(.s 26),(.s 27),(.s 28)],some (25,false)⟩,⟨some 30,.bin .lss (.s 29) (.c (.int .i64 0)),some (25,false)⟩,⟨some 31,.pick (.s 25) (.c (.bool true)) (.s 30),none⟩]
@[reducible] def soft_Files_make.r5 : List MOp:=[⟨some 6,.mov (.c (.int .i64 6)),none⟩]
@[reducible] def soft_Files_make.r6 : List MOp:=[⟨some 32,.mov (.s 0),none⟩,⟨some 33,.nilck (.s 32),none⟩,⟨some 34,.fld tFiles 1 tI (.s 33),none⟩,⟨some 35,.load false none tI (.s 34),none⟩,⟨some 36,.bin .add (.s 35) (.c (.int .i64 1)),none⟩,⟨some 37,.nilck (.s 32),none⟩,⟨some 38,.fld tFiles 1 tI (.s 37),none⟩,⟨none,.store tI [] (.s 38) (.s 36),none⟩]
@[reducible] def soft_Files_make.r7 : List MOp:=[⟨some 39,.mov (.s 0),none⟩,⟨some 40,.nilck (.s 39),none⟩,⟨some 41,.fld tFiles 0 tP (.s 40),none⟩,⟨some 42,.load false none tP (.s 41),none⟩,⟨some 43,.mov (.s 7),none⟩,⟨some 44,.call true [] 33 [],none⟩,⟨some 45,.nilck (.s 42),none⟩,⟨some 46,.fld tCache 0 tImage (.s 45),none⟩,⟨some 47,.fld tImage 0 tInodes (.s 46),none⟩,⟨some 48,.idx 8 tInode (.s 47) (.s 43),none⟩,⟨none,.store tInode [] (.s 48) (.s 44),none⟩]
@[reducible] def soft_Files_make.r8 : List MOp:=[⟨some 49,.mov (.s 0),none⟩,⟨some 50,.nilck (.s 49),none⟩,⟨some 51,.fld tFiles 0 tP (.s 50),none⟩,⟨some 52,.load false none tP (.s 51),none⟩,⟨some 53,.mov (.s 7),none⟩,⟨some 54,.mov (.s 0),none⟩,⟨some 55,.nilck (.s 54),none⟩,⟨some 56,.fld tFiles 0 tP (.s 55),none⟩,⟨some 57,.load false none tP (.s 56),none⟩,⟨some 58,.mov (.s 7),none⟩,⟨some 59,.mov (.s 0),none⟩,⟨some 60,.nilck (.s 59),none⟩,⟨some 61,.fld tFiles 1 tI (.s 60),none⟩,⟨some 62,.load false none tI (.s 61),none⟩,⟨some 63,.nilck (.s 52),none⟩,⟨some 64,.fld tCache 0 tImage (.s 63),none⟩,⟨some 65,.fld tImage 0 tInodes (.s 64),none⟩,⟨some 66,.idx 8 tInode (.s 65) (.s 53),none⟩,⟨some 67,.fld tInode 0 tB (.s 66),none⟩,⟨none,.store tB [] (.s 67) (.c (.bool true)),none⟩,⟨some 68,.nilck (.s 57),none⟩,⟨some 69,.fld tCache 0 tImage (.s 68),none⟩,⟨some 70,.fld tImage 0 tInodes (.s 69),none⟩,⟨some 71,.idx 8 tInode (.s 70) (.s 58),none⟩,⟨some 72,.fld tInode 1 tI (.s 71),none⟩,⟨none,.store tI [] (.s 72) (.s 62),none⟩]
@[reducible] def soft_Files_make.r9 : List MOp:=[⟨some 73,.mov (.s 0),none⟩,⟨some 74,.mov (.s 1),none⟩,⟨some 75,.mov (.s 2),none⟩,⟨some 76,.mov (.s 7),none⟩,⟨some 77,.call false [] 290 [(.s 73),(.s 74),(.s 75),(.s 76)],none⟩,⟨some 6,.mov (.s 77),none⟩]
@[reducible] def soft_Files_make.body : MC:=(.seq (.reg false soft_Files_make.r0 [6]) (.seq (.seq (.reg false soft_Files_make.r1 [8,9,10,11,12,13,14,15,16]) (.cond (.s 17) (.seq (.reg false soft_Files_make.r2 []) .ret) .skip)) (.seq (.reg false soft_Files_make.r3 [18,19,20,21,22]) (.seq (.seq (.reg false soft_Files_make.r4 [23,24,25,26,27,28,29,30]) (.cond (.s 31) (.seq (.reg false soft_Files_make.r5 []) .ret) .skip)) (.seq (.reg false soft_Files_make.r6 [32,33,34,35,36,37,38]) (.seq (.reg true soft_Files_make.r7 [39,40,41,42,43,44,45,46,47,48]) (.seq (.reg true soft_Files_make.r8 [49,50,51,52,53,54,55,56,57,58,59,60,61,62,63,64,65,66,67,68,69,70,71,72]) (.seq (.reg false soft_Files_make.r9 [0,1,2,7,73,74,75,76,77]) .ret))))))))
@[reducible] def soft_Files_make : MFun:={ params:=3,nfree:=0,res:=[.tmp 6],body:=soft_Files_make.body }
@[reducible] def life_Life_crash.r0 : List MOp:=[⟨some 2,.mov (.c (.int .i64 0)),none⟩]
@[reducible] def life_Life_crash.r1 : List MOp:=[⟨some 7,.mov (.s 0),none⟩,⟨some 8,.nilck (.s 7),none⟩,⟨some 9,.fld tLife 0 tP (.s 8),none⟩,⟨some 10,.load false none tP (.s 9),none⟩,⟨some 11,.nilck (.s 10),none⟩,⟨some 12,.fld tFiles 0 tP (.s 11),none⟩,⟨some 13,.load false none tP (.s 12),none⟩,⟨some 14,.call false [] 203 [(.s 13)],none⟩,⟨some 15,.call false [] 27 [(.s 14)],none⟩,⟨some 6,.mov (.s 15),none⟩,⟨some 16,.ext (.s 6) 0,none⟩,⟨some 17,.ext (.s 6) 1,none⟩,⟨some 18,.ext (.s 6) 2,none⟩,⟨some 3,.alloc false tImage,none⟩,⟨some 4,.alloc false tLost,none⟩,⟨none,.store tImage [] (.s 3) (.s 16),none⟩,⟨none,.store tLost [] (.s 4) (.s 17),none⟩,⟨some 5,.mov (.s 18),none⟩]
@[reducible] def life_Life_crash.r2 : List MOp:=[⟨some 19,.mov (.s 5),none⟩,⟨some 20,.bin .neq (.s 19) (.c (.int .i64 0)),none⟩]
@[reducible] def life_Life_crash.r3 : List MOp:=[⟨some 21,.mov (.s 5),none⟩,⟨some 2,.mov (.s 21),none⟩]
@[reducible] def life_Life_crash.r4 : List MOp:=[⟨some 22,.mov (.s 0),none⟩,⟨some 23,.mov (.s 0),none⟩,⟨some 24,.load false none tImage (.s 3),none⟩,⟨some 25,.call true [] 278 [(.s 24)],none⟩,⟨some 26,.load false (some 4) tLost (.s 4),none⟩,⟨some 27,.nilck (.s 22),none⟩,⟨some 28,.fld tLife 0 tP (.s 27),none⟩,⟨none,.store tP [4] (.s 28) (.s 25),none⟩,⟨some 29,.nilck (.s 23),none⟩,⟨some 30,.fld tLife 1 tLost (.s 29),none⟩,⟨none,.store tLost [] (.s 30) (.s 26),none⟩]
@[reducible] def life_Life_crash.r5 : List MOp:=[⟨some 31,.mov (.s 0),none⟩,⟨some 32,.nilck (.s 31),none⟩,⟨some 33,.fld tLife 2 tI (.s 32),none⟩,⟨some 34,.load false none tI (.s 33),none⟩,⟨some 35,.bin .add (.s 34) (.c (.int .i64 1)),none⟩,⟨some 36,.nilck (.s 31),none⟩,⟨some 37,.fld tLife 2 tI (.s 36),none⟩,⟨none,.store tI [] (.s 37) (.s 35),none⟩]
@[reducible] def life_Life_crash.r6 : List MOp:=[⟨some 2,.mov (.c (.int .i64 0)),none⟩]
@[reducible] def life_Life_crash.body : MC:=(.seq (.reg false life_Life_crash.r0 [2]) (.seq (.reg false life_Life_crash.r1 [6,7,8,9,10,11,12,13,14,15,16,17,18]) (.seq (.seq (.reg false life_Life_crash.r2 [19]) (.cond (.s 20) (.seq (.reg false life_Life_crash.r3 [5,21]) .ret) .skip)) (.seq (.reg true life_Life_crash.r4 [3,4,22,23,24,25,26,27,28,29,30]) (.seq (.reg false life_Life_crash.r5 [0,31,32,33,34,35,36,37]) (.seq (.reg false life_Life_crash.r6 []) .ret))))))
@[reducible] def life_Life_crash : MFun:={ params:=1,nfree:=0,res:=[.tmp 2],body:=life_Life_crash.body }
@[reducible] def soft_Files_free.r0 : List MOp:=[⟨some 6,.mov (.c (.int .i64 0)),none⟩]
@[reducible] def soft_Files_free.r1 : List MOp:=[⟨some 8,.mov (.s 0),none⟩,⟨some 9,.nilck (.s 8),none⟩,⟨some 10,.fld tFiles 0 tP (.s 9),none⟩,⟨some 11,.load false none tP (.s 10),none⟩,⟨some 12,.call false [] 203 [(.s 11)],none⟩,⟨some 7,.alloc false tImage,none⟩,⟨none,.store tImage [] (.s 7) (.s 12),none⟩]
@[reducible] def soft_Files_free.r2 : List MOp:=[⟨some 13,.mov (.s 1),none⟩,⟨some 14,.mov (.s 2),none⟩,⟨some 15,.call false [] 19 [(.s 7),(.s 13),(.s 14)],none⟩,⟨some 16,.bin .geq (.s 15) (.c (.int .i64 0)),none⟩]
@[reducible] def soft_Files_free.r3 : List MOp:=[⟨some 6,.mov (.c (.int .i64 (-1))),none⟩]
@[reducible] def soft_Files_free.r4 : List MOp:=[⟨some 17,.mov (.s 0),none⟩,⟨some 18,.nilck (.s 17),none⟩,⟨some 19,.fld tFiles 0 tP (.s 18),none⟩,⟨some 20,.load false none tP (.s 19),none⟩,⟨some 21,.mov (.s 1),none⟩,⟨some 22,.call false [] 207 [(.s 20),(.s 21)],none⟩,⟨some 6,.mov (.s 22),none⟩]
@[reducible] def soft_Files_free.body : MC:=(.seq (.reg false soft_Files_free.r0 [6]) (.seq (.reg false soft_Files_free.r1 [8,9,10,11,12]) (.seq (.seq (.reg false soft_Files_free.r2 [2,7,13,14,15]) (.cond (.s 16) (.seq (.reg false soft_Files_free.r3 []) .ret) .skip)) (.seq (.reg false soft_Files_free.r4 [0,1,17,18,19,20,21,22]) .ret))))
@[reducible] def soft_Files_free : MFun:={ params:=3,nfree:=0,res:=[.tmp 6],body:=soft_Files_free.body }
end Fn
def tblEL0 : List (Option MFun):=[none,none,none,none,none,none,none,none,none,none,none,none,none,none,none,none,some Fn.ideal_Check,none,none,none,none,none,none,none,none,none,none,none,none,none,none,none,some Fn.ideal_check,none,none,none,some Fn.slices_SortFunc,none,none,none,some Fn.math_bits_Len,some Fn.slices_pdqsortCmpFunc,some Fn.cmp_Compare,some Fn.cmp_isNaN,none,none,none,none,none,none,none,some Fn.slices_insertionSortCmpFunc,some Fn.math_bits_Len64,none,none,none,none,none,none,none,none,none,none,none,none,none,some Fn.soft_Files_Same,none,some Fn.soft_Files_Sure,none,none,some Fn.soft_Files_Read,some Fn.soft_Files_List,none,none,some Fn.soft_Files_Do,some Fn.soft_New,none,none,none,none,some Fn.life_Life_Step,none,some Fn.life_Life_Crashes,some Fn.life_Life_Lost,some Fn.life_New,none,none,none,some Fn.soft_Files_List_1,some Fn.soft_Files_enter,some Fn.soft_Files_leave,some Fn.soft_Files_put,some Fn.soft_Files_make,some Fn.life_Life_crash,none,none,some Fn.soft_Files_free,none,none,none,none,none,none,none,none,none,none]
namespace Fn
@[reducible] def soft_Of.r0 : List MOp:=[⟨some 1,.box false tImage (.s 0),none⟩,⟨some 2,.mov (.c .nilp),none⟩]
@[reducible] def soft_Of.r1 : List MOp:=[⟨some 7,.load false none tImage (.s 1),none⟩,⟨some 8,.call false [] 214 [(.s 7)],none⟩,⟨some 3,.mov (.s 8),none⟩]
@[reducible] def soft_Of.r2 : List MOp:=[⟨some 9,.mov (.s 3),none⟩,⟨some 10,.eq false tP (.s 9) (.c .nilp),none⟩]
@[reducible] def soft_Of.r3 : List MOp:=[⟨some 2,.mov (.c .nilp),none⟩]
@[reducible] def soft_Of.r4 : List MOp:=[⟨some 11,.mov (.s 3),none⟩,⟨some 12,.build tFiles [(0,(.s 11))],none⟩,⟨some 13,.box true tFiles (.s 12),none⟩,⟨some 4,.mov (.s 13),none⟩]
@[reducible] def soft_Of.r5 : List MOp:=[⟨some 14,.fld tImage 0 tInodes (.s 1),none⟩,⟨some 15,.load false none tInodes (.s 14),none⟩,⟨some 16,.mov (.c (.int .i64 0)),none⟩]
@[reducible] def soft_Of.r6 : List MOp:=[⟨some 17,.bin .lss (.s 16) (.c (.int .i64 8)),none⟩]
@[reducible] def soft_Of.r7 : List MOp:=[⟨some 18,.aidx 8 tInode (.s 15) (.s 16),none⟩,⟨some 6,.alloc false tInode,none⟩,⟨none,.store tInode [] (.s 6) (.s 18),none⟩]
@[reducible] def soft_Of.r8 : List MOp:=[⟨some 19,.mov (.s 4),none⟩,⟨some 20,.mov (.s 4),none⟩,⟨some 21,.nilck (.s 20),none⟩,⟨some 22,.fld tFiles 1 tI (.s 21),none⟩,⟨some 23,.load false none tI (.s 22),none⟩,⟨some 24,.fld tInode 1 tI (.s 6),none⟩,⟨some 25,.load false none tI (.s 24),none⟩,⟨some 26,.max (.s 23) (.s 25),none⟩,⟨some 27,.nilck (.s 19),none⟩,⟨some 28,.fld tFiles 1 tI (.s 27),none⟩,⟨none,.store tI [] (.s 28) (.s 26),none⟩]
@[reducible] def soft_Of.r9 : List MOp:=[⟨some 29,.bin .add (.s 16) (.c (.int .i64 1)),none⟩,⟨some 16,.mov (.s 29),none⟩]
@[reducible] def soft_Of.r10 : List MOp:=[⟨some 30,.mov (.s 4),none⟩,⟨some 2,.mov (.s 30),none⟩]
@[reducible] def soft_Of.body : MC:=(.seq (.reg false soft_Of.r0 [0,2]) (.seq (.reg false soft_Of.r1 [7,8]) (.seq (.seq (.reg false soft_Of.r2 [9]) (.cond (.s 10) (.seq (.reg false soft_Of.r3 []) .ret) .skip)) (.seq (.reg false soft_Of.r4 [3,11,12,13]) (.seq (.seq (.reg false soft_Of.r5 [1,14]) (.block 0 (.loop [4,15,16] [13] (.seq (.reg false soft_Of.r6 []) (.seq (.cond (.s 17) .skip (.exit 0)) (.seq (.block 1 (.seq (.reg false soft_Of.r7 [18]) (.reg true soft_Of.r8 [6,19,20,21,22,23,24,25,26,27,28]))) (.reg false soft_Of.r9 [29]))))))) (.seq (.reg false soft_Of.r10 [4,30]) .ret))))))
@[reducible] def soft_Of : MFun:={ params:=1,nfree:=0,res:=[.tmp 2],body:=soft_Of.body }
end Fn
def tblF0 : List (Option MFun):=[none,none,none,none,none,none,none,none,none,none,none,none,none,none,none,none,none,none,none,none,none,none,none,none,none,none,none,none,none,none,none,none,none,none,none,none,none,none,none,none,none,none,none,none,none,none,none,none,none,none,none,none,none,none,none,none,none,none,none,none,none,none,none,none,none,none,none,none,none,none,none,none,none,none,none,none,none,none,some Fn.soft_Of,none,none,none,none,none,none,none,none,none,none,none,none,none,none,none,none,none,none,none,none,none,none,none,none,none,none,none,none,none,none,none,none,none,none,none,none,none]
namespace Fn
end Fn
def tblG0 : List (Option MFun):=[none,none,none,none,none,none,none,none,none,none,none,none,none,none,none,none,none,none,none,none,none,none,none,none,none,none,none,none,none,none,none,none,none,none,none,none,none,none,none,none,none,none,none,none,none,none,none,none,none,none,none,none,none,none,none,none,none,none,none,none,none,none,none,none,none,none,none,none,none,none,none,none,none,none,none,none,none,none,none,none,none,none,none,none,none,none,none,none,none,none,none,none,none,none,none,none,none,none,none,none,none,none,none,none,none,none,none,none,none,none,none,none,none,none,none,none,none,none,none,none,none,none,none,none,none,none,none,none,none,none,none,none,none,none,none]
def numL (n : Int) : List UInt8:=Lib.itoa n
def i64 (n : Int) : Prop:=-9223372036854775808 ≤ n ∧ n ≤ 9223372036854775807
instance (n : Int) : Decidable (i64 n):=inferInstanceAs (Decidable (_ ∧ _))
def pItoa : List AV → Option AV
 | [.int .i64 n]=>if i64 n then some (.str ⟨(numL n).toArray⟩) else none
 | _=>none
def hexV (c : UInt8) : Option Nat :=
 if 48 ≤ c.toNat ∧ c.toNat ≤ 57 then some (c.toNat - 48)
 else if 97 ≤ (c ||| 32).toNat ∧ (c ||| 32).toNat ≤ 102 then some ((c ||| 32).toNat - 87) else none
def hex2 (b : ByteArray) : Option Nat :=
 match b.data.toList with
 | [x,y]=>match hexV x,hexV y with
  | some p,some q=>some (16 * p + q)
  | _,_=>none
 | _=>none
def pPu : List AV → Option AV
 | [.str b,.int .i64 16,.int .i64 8]=>if b.size = 2 then some (.int .u64 ((hex2 b).getD 0)) else none
 | _=>none
def pPe : List AV → Option AV
 | [.str b,.int .i64 16,.int .i64 8]=>if b.size = 2 then some (.iface (hex2 b).isNone) else none
 | _=>none
def hexD (n : Nat) : UInt8:=if n < 10 then UInt8.ofNat (48 + n) else UInt8.ofNat (87 + n)
def show1 (c : UInt8) : List UInt8:=if 33 ≤ c.toNat ∧ c.toNat ≤ 126 ∧ c.toNat ≠ 92 then [c] else [92,hexD (c.toNat / 16),hexD (c.toNat % 16)]
def showL (l : List UInt8) : List UInt8:=61 :: l.flatMap show1
def lineL (ws : List (List UInt8)) : List UInt8:=Lib.join ws [32] ++ [10]
def inoL (n : Nat) (i : Ino) : List UInt8 := if i.live then lineL ["inode".toUTF8.data.toList, numL n, numL i.stamp, numL i.links, numL i.part[0], numL i.part[1]] else []
def entL (d s : Nat) (e : Ent) : List UInt8 := if e.name.size ≠ 0 then lineL ["entry".toUTF8.data.toList, numL d, numL s, e.name.data.toList, numL e.ino, numL e.stamp] else []
def datL (x : Nat) (y : Dat) : List UInt8 := if y.of ≠ 0 then lineL ["data".toUTF8.data.toList, numL x, numL y.of, showL y.text.data.toList] else []
def textL (m : Img) : List UInt8 :=
 (List.finRange 8).flatMap (fun n : Fin 8=>inoL n.val m.inode[n]) ++ ((List.finRange 3).flatMap fun d : Fin 3=>(List.finRange 4).flatMap fun s : Fin 4=>entL d.val s.val m.dir[d][s]) ++ (List.finRange 9).flatMap fun x : Fin 9=>datL x.val m.data[x]
def Img.slim (m : Img) : Prop :=
 (∀ n : Fin 8,i64 m.inode[n].stamp ∧ i64 m.inode[n].links ∧ i64 m.inode[n].part[0] ∧ i64 m.inode[n].part[1]) ∧
 (∀ (d : Fin 3) (s : Fin 4),i64 m.dir[d][s].ino ∧ i64 m.dir[d][s].stamp ∧ m.dir[d][s].name.size ≤ 10000) ∧ ∀ x : Fin 9,i64 m.data[x].of ∧ m.data[x].text.size ≤ 10000
open Classical in
noncomputable def pPrint : List AV → Option AV
 | [v]=>if h : ∃ m : Img,v = m.enc ∧ m.slim then some (.str ⟨(textL h.choose).toArray⟩) else none
 | _=>none
namespace Fn
@[reducible] noncomputable def text_Print.r0 : List MOp:=[⟨some 1,.load false none tImage (.s 0),none⟩,⟨some 2,.prim pPrint [(.s 1)],none⟩]
@[reducible] noncomputable def text_Print.body : MC:=(.seq (.reg false text_Print.r0 []) .ret)
@[reducible] noncomputable def text_Print : MFun:={ params:=1,nfree:=0,res:=[.tmp 2],body:=text_Print.body }
@[reducible] def text_Show.r0 : List MOp:=[⟨some 2,.mov (.c (.str ⟨#[]⟩)),none⟩]
@[reducible] def text_Show.r1 : List MOp:=[⟨some 6,.bslice true tU8 1 [(0,(.c (.int .u8 61)))],none⟩,⟨some 3,.mov (.s 6),none⟩]
@[reducible] def text_Show.r2 : List MOp:=[⟨some 7,.mov (.s 0),none⟩,⟨some 8,.len true (.s 7),none⟩,⟨some 9,.mov (.c (.int .i64 0)),none⟩]
@[reducible] def text_Show.r3 : List MOp:=[⟨some 10,.bin .lss (.s 9) (.s 8),none⟩]
@[reducible] def text_Show.r4 : List MOp:=[⟨some 11,.mov (.s 9),none⟩,⟨some 4,.mov (.s 11),none⟩]
@[reducible] def text_Show.r5 : List MOp:=[⟨some 12,.mov (.s 0),none⟩,⟨some 13,.mov (.s 4),none⟩,⟨some 14,.stridx (.s 12) (.s 13),none⟩,⟨some 5,.mov (.s 14),none⟩]
@[reducible] def text_Show.r6 : List MOp:=[⟨some 15,.mov (.s 5),none⟩,⟨some 16,.bin .gtr (.s 15) (.c (.int .u8 32)),none⟩,⟨some 17,.mov (.s 16),none⟩,⟨some 18,.mov (.s 5),some (17,true)⟩,⟨some 19,.bin .lss (.s 18) (.c (.int .u8 127)),some (17,true)⟩,⟨some 20,.pick (.s 17) (.s 19) (.c (.bool false)),none⟩,⟨some 21,.mov (.s 20),none⟩,⟨some 22,.mov (.s 5),some (21,true)⟩,⟨some 23,.bin .neq (.s 22) (.c (.int .u8 92)),some (21,true)⟩,⟨some 24,.pick (.s 21) (.s 23) (.c (.bool false)),none⟩]
@[reducible] def text_Show.r7 : List MOp:=[⟨some 25,.mov (.s 3),none⟩,⟨some 26,.mov (.s 5),none⟩,⟨some 27,.bslice false tU8 1 [(0,(.s 26))],none⟩,⟨some 28,.append true [] tU8 (.s 25) (.s 27),none⟩,⟨some 3,.mov (.s 28),none⟩]
@[reducible] def text_Show.r8 : List MOp:=[⟨some 29,.mov (.s 3),none⟩,⟨some 30,.mov (.s 5),none⟩,⟨some 31,.bin .shr (.s 30) (.c (.int .u64 4)),none⟩,⟨some 32,.stridx (.c (.str ⟨#[48,49,50,51,52,53,54,55,56,57,97,98,99,100,101,102]⟩)) (.s 31),none⟩,⟨some 33,.mov (.s 5),none⟩,⟨some 34,.bin .and (.s 33) (.c (.int .u8 15)),none⟩,⟨some 35,.stridx (.c (.str ⟨#[48,49,50,51,52,53,54,55,56,57,97,98,99,100,101,102]⟩)) (.s 34),none⟩,⟨some 36,.bslice false tU8 3 [(0,(.c (.int .u8 92))),(1,(.s 32)),(2,(.s 35))],none⟩,⟨some 37,.append true [] tU8 (.s 29) (.s 36),none⟩,⟨some 3,.mov (.s 37),none⟩]
@[reducible] def text_Show.r9 : List MOp:=[⟨some 38,.bin .add (.s 9) (.c (.int .i64 1)),none⟩,⟨some 9,.mov (.s 38),none⟩]
@[reducible] def text_Show.r10 : List MOp:=[⟨some 39,.mov (.s 3),none⟩,⟨some 40,.tostr (.s 39),none⟩,⟨some 2,.mov (.s 40),none⟩]
@[reducible] def text_Show.body : MC:=(.seq (.reg false text_Show.r0 [2]) (.seq (.reg false text_Show.r1 [6]) (.seq (.seq (.reg false text_Show.r2 [7]) (.block 0 (.loop [0,3,8,9] [6,8,28,37] (.seq (.reg false text_Show.r3 []) (.seq (.cond (.s 10) .skip (.exit 0)) (.seq (.block 1 (.seq (.reg false text_Show.r4 [11]) (.seq (.reg false text_Show.r5 [4,12,13,14]) (.seq (.reg false text_Show.r6 [15,16,17,18,19,20,21,22,23]) (.cond (.s 24) (.reg false text_Show.r7 [5,25,26,27,28]) (.reg true text_Show.r8 [5,29,30,31,32,33,34,35,36,37])))))) (.reg false text_Show.r9 [38]))))))) (.seq (.reg false text_Show.r10 [3,39,40]) .ret))))
@[reducible] def text_Show : MFun:={ params:=1,nfree:=0,res:=[.tmp 2],body:=text_Show.body }
@[reducible] def text_Mean.r0 : List MOp:=[⟨some 2,.mov (.c (.str ⟨#[]⟩)),none⟩,⟨some 3,.mov (.c (.bool false)),none⟩]
@[reducible] def text_Mean.r1 : List MOp:=[⟨some 11,.mov (.s 0),none⟩,⟨some 12,.call false [] 349 [(.s 11),(.c (.str ⟨#[61]⟩))],none⟩,⟨some 10,.mov (.s 12),none⟩,⟨some 13,.ext (.s 10) 0,none⟩,⟨some 14,.ext (.s 10) 1,none⟩,⟨some 4,.mov (.s 13),none⟩,⟨some 5,.mov (.s 14),none⟩]
@[reducible] def text_Mean.r2 : List MOp:=[⟨some 15,.mov (.s 5),none⟩,⟨some 16,.un .not (.s 15),none⟩]
@[reducible] def text_Mean.r3 : List MOp:=[⟨some 2,.mov (.c (.str ⟨#[]⟩)),none⟩,⟨some 3,.mov (.c (.bool false)),none⟩]
@[reducible] def text_Mean.r4 : List MOp:=[⟨some 6,.mov (.c .nilsl),none⟩]
@[reducible] def text_Mean.r5 : List MOp:=[⟨some 17,.mov (.s 4),none⟩,⟨some 18,.bin .neq (.s 17) (.c (.str ⟨#[]⟩)),none⟩]
@[reducible] def text_Mean.r6 : List MOp:=[⟨some 19,.mov (.s 4),none⟩,⟨some 20,.stridx (.s 19) (.c (.int .i64 0)),none⟩,⟨some 7,.mov (.s 20),none⟩]
@[reducible] def text_Mean.r7 : List MOp:=[⟨some 21,.mov (.s 4),none⟩,⟨some 22,.strsl (.s 21) (some (.c (.int .i64 1))) none,none⟩,⟨some 4,.mov (.s 22),none⟩]
@[reducible] def text_Mean.r8 : List MOp:=[⟨some 23,.mov (.s 7),none⟩,⟨some 24,.bin .eql (.s 23) (.c (.int .u8 92)),none⟩]
@[reducible] def text_Mean.r9 : List MOp:=[⟨some 25,.mov (.s 4),none⟩,⟨some 26,.len true (.s 25),none⟩,⟨some 27,.bin .lss (.s 26) (.c (.int .i64 2)),none⟩]
@[reducible] def text_Mean.r10 : List MOp:=[⟨some 2,.mov (.c (.str ⟨#[]⟩)),none⟩,⟨some 3,.mov (.c (.bool false)),none⟩]
@[reducible] def text_Mean.r11 : List MOp:=[⟨some 29,.mov (.s 4),none⟩,⟨some 30,.strsl (.s 29) none (some (.c (.int .i64 2))),none⟩,⟨some 31,.call false [] 348 [(.s 30),(.c (.int .i64 16)),(.c (.int .i64 8))],none⟩,⟨some 28,.mov (.s 31),none⟩,⟨some 32,.ext (.s 28) 0,none⟩,⟨some 33,.ext (.s 28) 1,none⟩,⟨some 8,.mov (.s 32),none⟩,⟨some 9,.mov (.s 33),none⟩]
@[reducible] def text_Mean.r12 : List MOp:=[⟨some 34,.mov (.s 9),none⟩,⟨some 35,.eqif true (.s 34) (.c (.iface false)),none⟩]
@[reducible] def text_Mean.r13 : List MOp:=[⟨some 2,.mov (.c (.str ⟨#[]⟩)),none⟩,⟨some 3,.mov (.c (.bool false)),none⟩]
@[reducible] def text_Mean.r14 : List MOp:=[⟨some 36,.mov (.s 8),none⟩,⟨some 37,.conv .u8 (.s 36),none⟩,⟨some 38,.mov (.s 4),none⟩,⟨some 39,.strsl (.s 38) (some (.c (.int .i64 2))) none,none⟩,⟨some 7,.mov (.s 37),none⟩,⟨some 4,.mov (.s 39),none⟩]
@[reducible] def text_Mean.r15 : List MOp:=[⟨some 40,.mov (.s 6),none⟩,⟨some 41,.mov (.s 7),none⟩,⟨some 42,.bslice false tU8 1 [(0,(.s 41))],none⟩,⟨some 43,.append false [] tU8 (.s 40) (.s 42),none⟩,⟨some 6,.mov (.s 43),none⟩]
@[reducible] def text_Mean.r16 : List MOp:=[⟨some 44,.mov (.s 6),none⟩,⟨some 45,.tostr (.s 44),none⟩,⟨some 46,.call false [] 342 [(.s 45)],none⟩,⟨some 47,.mov (.s 0),none⟩,⟨some 48,.bin .neq (.s 46) (.s 47),none⟩]
@[reducible] def text_Mean.r17 : List MOp:=[⟨some 2,.mov (.c (.str ⟨#[]⟩)),none⟩,⟨some 3,.mov (.c (.bool false)),none⟩]
@[reducible] def text_Mean.r18 : List MOp:=[⟨some 49,.mov (.s 6),none⟩,⟨some 50,.tostr (.s 49),none⟩,⟨some 2,.mov (.s 50),none⟩,⟨some 3,.mov (.c (.bool true)),none⟩]
@[reducible] def text_Mean.body : MC:=(.seq (.reg false text_Mean.r0 [2,3]) (.seq (.reg false text_Mean.r1 [10,11,12,13,14]) (.seq (.seq (.reg false text_Mean.r2 [5,15]) (.cond (.s 16) (.seq (.reg false text_Mean.r3 []) .ret) .skip)) (.seq (.reg false text_Mean.r4 []) (.seq (.block 0 (.loop [0,4,6] [43] (.seq (.seq (.reg false text_Mean.r5 [17]) (.cond (.s 18) .skip (.exit 0))) (.block 1 (.seq (.reg false text_Mean.r6 [19,20]) (.seq (.reg false text_Mean.r7 [21,22]) (.seq (.seq (.reg false text_Mean.r8 [23]) (.cond (.s 24) (.seq (.seq (.reg false text_Mean.r9 [25,26]) (.cond (.s 27) (.seq (.reg false text_Mean.r10 []) .ret) .skip)) (.seq (.reg false text_Mean.r11 [28,29,30,31,32,33]) (.seq (.seq (.reg false text_Mean.r12 [9,34]) (.cond (.s 35) (.seq (.reg false text_Mean.r13 []) .ret) .skip)) (.reg true text_Mean.r14 [8,36,37,38,39])))) .skip)) (.reg false text_Mean.r15 [7,40,41,42,43])))))))) (.seq (.seq (.reg false text_Mean.r16 [0,44,45,46,47]) (.cond (.s 48) (.seq (.reg false text_Mean.r17 []) .ret) .skip)) (.seq (.reg false text_Mean.r18 [6,49,50]) .ret)))))))
@[reducible] def text_Mean : MFun:={ params:=1,nfree:=0,res:=[.tmp 2,.tmp 3],body:=text_Mean.body }
@[reducible] noncomputable def strconv_ParseUint.r0 : List MOp:=[⟨some 3,.prim pPu [(.s 0),(.s 1),(.s 2)],none⟩,⟨some 4,.prim pPe [(.s 0),(.s 1),(.s 2)],none⟩]
@[reducible] noncomputable def strconv_ParseUint.body : MC:=(.seq (.reg false strconv_ParseUint.r0 []) .ret)
@[reducible] noncomputable def strconv_ParseUint : MFun:={ params:=3,nfree:=0,res:=[.tmp 3,.tmp 4],body:=strconv_ParseUint.body }
@[reducible] def strings_CutPrefix.r0 : List MOp:=[⟨some 4,.mov (.c (.str ⟨#[]⟩)),none⟩,⟨some 5,.mov (.c (.bool false)),none⟩]
@[reducible] def strings_CutPrefix.r1 : List MOp:=[⟨some 6,.mov (.s 0),none⟩,⟨some 7,.mov (.s 1),none⟩,⟨some 8,.call false [] 351 [(.s 6),(.s 7)],none⟩,⟨some 9,.ext (.s 8) 0,none⟩,⟨some 10,.ext (.s 8) 1,none⟩,⟨some 4,.mov (.s 9),none⟩,⟨some 5,.mov (.s 10),none⟩]
@[reducible] def strings_CutPrefix.body : MC:=(.seq (.reg false strings_CutPrefix.r0 [4,5]) (.seq (.reg false strings_CutPrefix.r1 [0,1,6,7,8,9,10]) .ret))
@[reducible] def strings_CutPrefix : MFun:={ params:=2,nfree:=0,res:=[.tmp 4,.tmp 5],body:=strings_CutPrefix.body }
@[reducible] noncomputable def strconv_Itoa.r0 : List MOp:=[⟨some 1,.prim pItoa [(.s 0)],none⟩]
@[reducible] noncomputable def strconv_Itoa.body : MC:=(.seq (.reg false strconv_Itoa.r0 []) .ret)
@[reducible] noncomputable def strconv_Itoa : MFun:={ params:=1,nfree:=0,res:=[.tmp 1],body:=strconv_Itoa.body }
@[reducible] def internal_stringslite_CutPrefix.r0 : List MOp:=[⟨some 4,.mov (.c (.str ⟨#[]⟩)),none⟩,⟨some 5,.mov (.c (.bool false)),none⟩]
@[reducible] def internal_stringslite_CutPrefix.r1 : List MOp:=[⟨some 6,.mov (.s 0),none⟩,⟨some 7,.mov (.s 1),none⟩,⟨some 8,.call false [] 352 [(.s 6),(.s 7)],none⟩,⟨some 9,.un .not (.s 8),none⟩]
@[reducible] def internal_stringslite_CutPrefix.r2 : List MOp:=[⟨some 10,.mov (.s 0),none⟩,⟨some 4,.mov (.s 10),none⟩,⟨some 5,.mov (.c (.bool false)),none⟩]
@[reducible] def internal_stringslite_CutPrefix.r3 : List MOp:=[⟨some 11,.mov (.s 0),none⟩,⟨some 12,.mov (.s 1),none⟩,⟨some 13,.len true (.s 12),none⟩,⟨some 14,.strsl (.s 11) (some (.s 13)) none,none⟩,⟨some 4,.mov (.s 14),none⟩,⟨some 5,.mov (.c (.bool true)),none⟩]
@[reducible] def internal_stringslite_CutPrefix.body : MC:=(.seq (.reg false internal_stringslite_CutPrefix.r0 [4,5]) (.seq (.seq (.reg false internal_stringslite_CutPrefix.r1 [6,7,8]) (.cond (.s 9) (.seq (.reg false internal_stringslite_CutPrefix.r2 [0,10]) .ret) .skip)) (.seq (.reg false internal_stringslite_CutPrefix.r3 [0,1,11,12,13,14]) .ret)))
@[reducible] def internal_stringslite_CutPrefix : MFun:={ params:=2,nfree:=0,res:=[.tmp 4,.tmp 5],body:=internal_stringslite_CutPrefix.body }
@[reducible] def internal_stringslite_HasPrefix.r0 : List MOp:=[⟨some 4,.mov (.c (.bool false)),none⟩]
@[reducible] def internal_stringslite_HasPrefix.r1 : List MOp:=[⟨some 5,.mov (.s 0),none⟩,⟨some 6,.len true (.s 5),none⟩,⟨some 7,.mov (.s 1),none⟩,⟨some 8,.len true (.s 7),none⟩,⟨some 9,.bin .geq (.s 6) (.s 8),none⟩,⟨some 10,.mov (.s 9),none⟩,⟨some 11,.mov (.s 0),some (10,true)⟩,⟨some 12,.mov (.s 1),some (10,true)⟩,⟨some 13,.len true (.s 12),some (10,true)⟩,⟨some 14,.strsl (.s 11) none (some (.s 13)),some (10,true)⟩,⟨some 15,.mov (.s 1),some (10,true)⟩,⟨some 16,.bin .eql (.s 14) (.s 15),some (10,true)⟩,⟨some 17,.pick (.s 10) (.s 16) (.c (.bool false)),none⟩,⟨some 4,.mov (.s 17),none⟩]
@[reducible] def internal_stringslite_HasPrefix.body : MC:=(.seq (.reg false internal_stringslite_HasPrefix.r0 [4]) (.seq (.reg false internal_stringslite_HasPrefix.r1 [0,1,5,6,7,8,9,10,11,12,13,14,15,16,17]) .ret))
@[reducible] def internal_stringslite_HasPrefix : MFun:={ params:=2,nfree:=0,res:=[.tmp 4],body:=internal_stringslite_HasPrefix.body }
end Fn
noncomputable def tblT0 : List (Option MFun):=[none,none,none,none,none,none,none,none,none,none,none,none,none,none,none,none,none,none,none,none,none,none,none,none,none,none,none,none,none,none,none,none,none,none,none,none,none,none,none,none,none,none,none,none,none,none,none,none,none,none,none,none,none,none,none,none,none,none,none,none,none,none,none,none,none,none,none,none,none,none,none,none,none,none,none,none,none,none,none,none,none,none,none,none,none,none,none,none,none,none,none,none,none,none,none,none,none,none,none,none,none,none,none,none,none,none,none,none,none,none,none,none,none,none,none,none,none,none,none,none,none,none,none,none,none,none,none,none,none,none,none,none,none,none,none,none,none,none,none,none,some Fn.text_Print,none,some Fn.text_Show,none,none,some Fn.text_Mean,none,none,some Fn.strconv_ParseUint,some Fn.strings_CutPrefix,some Fn.strconv_Itoa,some Fn.internal_stringslite_CutPrefix,some Fn.internal_stringslite_HasPrefix,none,none]
def mergeT : List (Option MFun) → List (Option MFun) → List (Option MFun)
 | [],c=>c
 | a,[]=>a
 | some x :: a,_ :: c=>some x :: mergeT a c
 | none :: a,b :: c=>b :: mergeT a c
theorem mergeT_ext : ∀ (a c : List (Option MFun)) (i : Nat) (fn : MFun),a.getD i none = some fn → (mergeT a c).getD i none = some fn
 | [],c,i,fn,h=>by simp at h
 | x :: a,[],i,fn,h=>by cases x <;> exact h
 | some x :: a,y :: c,0,fn,h=>h
 | none :: a,y :: c,0,fn,h=>by simp at h
 | some x :: a,y :: c,i + 1,fn,h=>mergeT_ext a c i fn h
 | none :: a,y :: c,i + 1,fn,h=>mergeT_ext a c i fn h
def tblEL : List (Option MFun):=mergeT (mergeT (mergeT (mergeT tblBL (List.replicate 200 none ++ tblDL0)) (List.replicate 200 none ++ tblEL0)) (List.replicate 200 none ++ tblF0)) (List.replicate 200 none ++ tblG0)
def tblE (f : Nat) : Option MFun:=tblEL.getD f none
theorem tbl_E (i : Nat) (fn : MFun) (h : tblB i = some fn) : tblE i = some fn:=mergeT_ext _ _ _ _ (mergeT_ext _ _ _ _ (mergeT_ext _ _ _ _ (mergeT_ext _ _ _ _ h)))
theorem upE {cx : Cx} {fn : MFun} {e : St} {R : AV → HP → Prop} (h : Ok tblB cx fn e R) : Ok tblE cx fn e R:=by
 obtain ⟨n,s',v,hr,hv,hR⟩:=h
 exact ⟨n,s',v,run_ext tbl_E hr,hv,hR⟩
def HP.ob (h : HP) (n : Nat) (t : Ty) (v : AV) : HP:=h.set (.obj n) ⟨t,v⟩
def HP.nw (h : HP) (t : Ty) (v : AV) : HP:={ h.ob h.next t v with next:=h.next + 1 }
section
variable {h : HP} {n m l : Nat} {t u : Ty} {v w : AV} {o : Own}
theorem cs_ob (a b : Img) : h.cs n a b = h.ob n tCache (encC a b):=rfl
@[go_sem] theorem look_ob : (h.ob n t v).look (.obj n) = some ⟨t,v⟩:=by simp [HP.ob,HP.set,HP.look]
theorem look_ob_ne (e : ¬m = n) : (h.ob n t v).look (.obj m) = h.look (.obj m):=by simp [HP.ob,HP.set,HP.look,e]
theorem obj_ob_ne (e : ¬m = n) : (h.ob n t v).obj m = h.obj m:=by simp [HP.ob,HP.set,e]
@[go_sem] theorem look_ob_arg : (h.ob n t v).look (.arg m) = h.look (.arg m):=rfl
@[go_sem] theorem ob_ob : (h.ob n t v).ob n u w = h.ob n u w:=by
 simp only [HP.ob,HP.set]; congr 1; funext k; by_cases e : k = n <;> simp [e]
@[go_sem] theorem push_ob : (h.push l o).ob n t v = (h.ob n t v).push l o:=rfl
@[go_sem] theorem push_nw : (h.push l o).nw t v = (h.nw t v).push l o:=rfl
@[go_sem] theorem next_ob : (h.ob n t v).next = h.next:=rfl
@[go_sem] theorem next_nw : (h.nw t v).next = h.next + 1:=rfl
@[go_sem] theorem next_push : (h.push l o).next = h.next:=rfl
@[go_sem] theorem look_nw : (h.nw t v).look (.obj h.next) = some ⟨t,v⟩:=by simp [HP.nw,HP.ob,HP.set,HP.look]
theorem look_nw_ne (e : ¬m = h.next) : (h.nw t v).look (.obj m) = h.look (.obj m):=by simp [HP.nw,HP.ob,HP.set,HP.look,e]
theorem look_nw_lt (e : m < h.next) : (h.nw t v).look (.obj m) = h.look (.obj m):=look_nw_ne (by omega)
@[go_sem] theorem push_looko : (h.push l o).look (.obj n) = h.look (.obj n):=rfl
@[go_sem] theorem push_look_arg : (h.push l o).look (.arg n) = h.look (.arg n):=rfl
@[go_sem] theorem nw_ob : (h.nw t v).ob h.next u w = h.nw u w:=by
 simp only [HP.nw,HP.ob,HP.set]; congr 1; funext k; by_cases e : k = h.next <;> simp [e]
end
section
variable {T : Nat → Option MFun} {cx : Cx} {k : List Item} {kill : List Nat} {r : List MOp} {sl : Slots} {own : Own} {h : HP} {Q : St → Prop}
@[go_sem] theorem fg_ob (n l t : Nat) (p : List Nat) (u : Ty) : fg (.ptr (.obj n) p u) (.stk l t) = .ptr (.obj n) p u:=fg_ptr (below_obj n l) p u
@[go_sem] theorem leads_ob (n l t : Nat) (p : List Nat) (u : Ty) : (AV.ptr (.obj n) p u).leads (.stk l t) = false:=leads_ptr (below_obj n l) p u
@[go_sem] theorem fg_obs (n l t : Nat) (a b : Nat) : fg (.sl (.obj n) a b) (.stk l t) = .sl (.obj n) a b:=fg_sl (below_obj n l) a b
@[go_sem] theorem fg_args (n l t : Nat) (a b : Nat) : fg (.sl (.arg n) a b) (.stk l t) = .sl (.arg n) a b:=fg_sl (below_arg n l) a b
@[go_sem] theorem fg_slz (i : Id) : fg .slz i = .slz:=rfl
@[go_sem] theorem leads_slz (i : Id) : AV.slz.leads i = false:=rfl
@[go_sem] theorem leads_nilsl (i : Id) : AV.nilsl.leads i = false:=rfl
@[go_sem] theorem leads_obs (n l t : Nat) (a b : Nat) : (AV.sl (.obj n) a b).leads (.stk l t) = false:=by simp [AV.leads,AV.isAgg,AV.names]
@[go_sem] theorem leads_args (n l t : Nat) (a b : Nat) : (AV.sl (.arg n) a b).leads (.stk l t) = false:=by simp [AV.leads,AV.isAgg,AV.names]
@[go_sem] theorem rd_look (n : Nat) (p : List Nat) : St.rd cx ⟨sl,own,h⟩ (.obj n) p = (h.look (.obj n)).bind fun b=>b.val.at p:=rfl
@[go_sem] theorem rd_look_arg (n : Nat) (p : List Nat) : St.rd cx ⟨sl,own,h⟩ (.arg n) p = (h.look (.arg n)).bind fun b=>b.val.at p:=rfl
@[go_sem] theorem look_obj (n : Nat) : St.look cx ⟨sl,own,h⟩ (.obj n) = h.look (.obj n):=rfl
@[go_sem] theorem look_arg (n : Nat) : St.look cx ⟨sl,own,h⟩ (.arg n) = h.look (.arg n):=rfl
@[go_sem] theorem apart_ob (n m : Nat) (p : List Nat) (u : Ty) : AV.apart (.obj n) (.ptr (.obj m) p u) = !decide (m = n):=by
 simp only [AV.apart]; congr 1; rw [Bool.eq_iff_iff]; simp
@[go_sem] theorem apart_obstk (n l t : Nat) (p : List Nat) (u : Ty) : AV.apart (.obj n) (.ptr (.stk l t) p u) = true:=by simp [AV.apart]
@[go_sem] theorem apart_stkob (n l t : Nat) (p : List Nat) (u : Ty) : AV.apart (.stk l t) (.ptr (.obj n) p u) = true:=apart_ptr (below_obj n l) p u
theorem stV_ob {n : Nat} {t : Ty} {p : List Nat} {v : AV} (hl : cx.prot.lets (.obj n) = true) : stV cx t (.ptr (.obj n) p t) v ⟨sl,own,h⟩ =
  if t.fits v = true then (h.look (.obj n)).bind fun b=>(b.val.put p v).map fun u=>⟨sl,own,h.ob n b.ty u⟩ else none:=by
 simp only [stV,true_and,St.look,Id.own]
 split
 ·cases h.look (.obj n) with
  | none=>rfl
  | some b =>
   simp only [Option.bind]
   cases b.val.put p v with
   | none=>rfl
   | some u=>simp only [St.write,Id.own,hl,if_true,Option.map]; rfl
 ·rfl
theorem WG_dec {p : Prop} [Decidable p] {c : Bool} {d : Option Nat} {o : MK} {s : St} (h1 : p → WG T cx (.bool true) c d o r kill k s Q) (h2 : ¬p → WG T cx (.bool false) c d o r kill k s Q) : WG T cx (.bool (decide p)) c d o r kill k s Q:=by
 by_cases hp : p
 ·rw [decide_eq_true hp]; exact h1 hp
 ·rw [decide_eq_false hp]; exact h2 hp
theorem WC_dec {p : Prop} [Decidable p] {t e : MC} {s : St} (h1 : p → WC T cx (.bool true) t e k s Q) (h2 : ¬p → WC T cx (.bool false) t e k s Q) : WC T cx (.bool (decide p)) t e k s Q:=by
 by_cases hp : p
 ·rw [decide_eq_true hp]; exact h1 hp
 ·rw [decide_eq_false hp]; exact h2 hp
theorem WG_ndec {p : Prop} [Decidable p] {c : Bool} {d : Option Nat} {o : MK} {s : St} (h1 : p → WG T cx (.bool false) c d o r kill k s Q) (h2 : ¬p → WG T cx (.bool true) c d o r kill k s Q) : WG T cx (.bool (!decide p)) c d o r kill k s Q:=by
 by_cases hp : p
 ·rw [decide_eq_true hp]; exact h1 hp
 ·rw [decide_eq_false hp]; exact h2 hp
theorem WC_ndec {p : Prop} [Decidable p] {t e : MC} {s : St} (h1 : p → WC T cx (.bool false) t e k s Q) (h2 : ¬p → WC T cx (.bool true) t e k s Q) : WC T cx (.bool (!decide p)) t e k s Q:=by
 by_cases hp : p
 ·rw [decide_eq_true hp]; exact h1 hp
 ·rw [decide_eq_false hp]; exact h2 hp
theorem WG_bool {b : Bool} {c : Bool} {d : Option Nat} {o : MK} {s : St} (h1 : b = true → WG T cx (.bool true) c d o r kill k s Q) (h2 : b = false → WG T cx (.bool false) c d o r kill k s Q) : WG T cx (.bool b) c d o r kill k s Q:=by
 cases b
 ·exact h2 rfl
 ·exact h1 rfl
theorem WC_bool {b : Bool} {t e : MC} {s : St} (h1 : b = true → WC T cx (.bool true) t e k s Q) (h2 : b = false → WC T cx (.bool false) t e k s Q) : WC T cx (.bool b) t e k s Q:=by
 cases b
 ·exact h2 rfl
 ·exact h1 rfl
theorem W_callR {prot : Bool} {f : Nat} {args : List Opd} {d : Option Nat} {fn : MFun} {R : AV → HP → Prop} (hf : T f = some fn) (hp : fn.params = args.length ∧ fn.nfree = 0)
  (hc : Ok T (St.callCx ⟨sl,own,h⟩ cx prot) fn (St.enter (args.map (St.opd ⟨sl,own,h⟩)) (h.push cx.lvl own)) fun v' h'=>∃ h1 : HP,h' = h1.push cx.lvl own ∧ h1.stk = h.stk ∧ R v' h1)
  (hq : ∀ v h1,R v h1 → W T cx (.ops r kill :: k) (St.setd ⟨sl,own,h1⟩ d v) Q) :
  W T cx (.ops (⟨d,.call prot [] f args,none⟩ :: r) kill :: k) ⟨sl,own,h⟩ Q:=by
 refine W_callr hf hp hc ?_
 rintro v h' ⟨h1,rfl,hs,hR⟩
 have : St.pop ⟨sl,own,h⟩ cx.lvl [] (h1.push cx.lvl own) = ⟨sl,own,h1⟩:=by
  simp only [St.pop,HP.pop,HP.push,Own.unveil,if_true]
  congr 1
  cases h1
  simp only at hs
  subst hs
  simp only [HP.mk.injEq,and_true]
  funext l
  by_cases hl : l = cx.lvl <;> simp [hl]
 rw [this]; exact hq v h1 hR
theorem W_forE {α : Type} {keep ko : List Nat} {b : MC} {s : St} (N : Nat) (S : Nat → α → St) (P : Nat → α → Prop) (a0 : α) (h0 : s.keep keep ko = S 0 a0) (p0 : P 0 a0)
  (step : ∀ j a,j ≤ N → P j a → (∀ s' a',j < N → s'.keep keep ko = S (j + 1) a' → P (j + 1) a' → W T cx (.inLoop keep ko b :: k) s' Q) → W T cx (.code b :: .inLoop keep ko b :: k) (S j a) Q) :
  W T cx (.code (.loop keep ko b) :: k) s Q :=
 W_loop N (fun j s=>∃ a,s = S j a ∧ P j a) ⟨a0,h0,p0⟩ fun j s hj hs ih=>by
  obtain ⟨a,rfl,hp⟩:=hs
  exact step j a hj hp fun s' a' hlt he hp'=>ih s' hlt ⟨a',he,hp'⟩
@[go_sem] theorem pickV_sel (c : Bool) (x y : AV) : pickV (.bool c) x y = some (if c = true then x else y):=by cases c <;> rfl
end
structure SStep where
 kind : Int
 dir : Int
 toDir : Int
 p : Int
 name : Str
 to : Str
 text : Str
def SStep.enc (x : SStep) : AV:=.cons (.int .i64 x.kind) (.cons (.int .i64 x.dir) (.cons (.int .i64 x.toDir) (.cons (.int .i64 x.p) (.cons (.str x.name) (.cons (.str x.to) (.cons (.str x.text) .unit))))))
@[go_sem] theorem at_step0 (x : SStep) : x.enc.at [0] = some (.int .i64 x.kind):=rfl
@[go_sem] theorem at_step1 (x : SStep) : x.enc.at [1] = some (.int .i64 x.dir):=rfl
@[go_sem] theorem at_step2 (x : SStep) : x.enc.at [2] = some (.int .i64 x.toDir):=rfl
@[go_sem] theorem at_step3 (x : SStep) : x.enc.at [3] = some (.int .i64 x.p):=rfl
@[go_sem] theorem at_step4 (x : SStep) : x.enc.at [4] = some (.str x.name):=rfl
@[go_sem] theorem at_step5 (x : SStep) : x.enc.at [5] = some (.str x.to):=rfl
@[go_sem] theorem at_step6 (x : SStep) : x.enc.at [6] = some (.str x.text):=rfl
@[go_sem] theorem field_step0 : tStep.field 0 = some tI:=rfl
@[go_sem] theorem field_step1 : tStep.field 1 = some tI:=rfl
@[go_sem] theorem field_step2 : tStep.field 2 = some tI:=rfl
@[go_sem] theorem field_step3 : tStep.field 3 = some tI:=rfl
@[go_sem] theorem field_step4 : tStep.field 4 = some tS:=rfl
@[go_sem] theorem field_step5 : tStep.field 5 = some tS:=rfl
@[go_sem] theorem field_step6 : tStep.field 6 = some tS:=rfl
@[go_sem] theorem fits_step (x : SStep) : (tStep.fits x.enc = true) = True:=eq_true rfl
@[go_sem] theorem fg_step (x : SStep) (i : Id) : fg x.enc i = x.enc:=rfl
@[go_sem] theorem leads_step (x : SStep) (i : Id) : x.enc.leads i = false:=rfl
@[go_sem] theorem isAgg_step (x : SStep) : x.enc.isAgg = true:=rfl
@[go_sem] theorem safe_step (x : SStep) : x.enc.safe = true:=rfl
def dirFaultN (d : Int) (s : Str) : Int:=if d < 0 ∨ 3 ≤ d then 1 else if isName s = true then 0 else 2
def stepFault (x : SStep) : Int :=
 if x.kind < 1 ∨ 6 < x.kind then 7 else
 if dirFaultN x.dir x.name ≠ 0 then dirFaultN x.dir x.name else
 if x.kind = 2 ∨ x.kind = 4 then dirFaultN x.toDir x.to else
 if (x.kind = 5 ∨ x.kind = 6) ∧ (x.p < 0 ∨ 2 ≤ x.p) then 1 else
 if x.kind = 5 ∧ 8 < x.text.size then 3 else 0
section
variable {cx : Cx} {h : HP}
theorem NameX_ok {s : Str} (hs : s.size ≤ 9223372036854775807) : Ok tblE cx Fn.image_Name (St.enter [.str s] h) fun v h'=>v = .bool (isName s) ∧ h' = h:=by
 rw [Ok_eq]
 simp (maxSteps:=999999) (disch:=omega) only [go_sem]
 refine W_forP s.size (fun j=>⟨[(0,.str s),(5,.int .i64 s.size),(6,.int .i64 j)],[],h⟩) (fun j=>∀ i,i < j → badByte s i = false) (by simp only [go_sem] <;> rfl) (fun i hi=>by omega) fun j hj hp ih=>?_
 by_cases hlt : j < s.size
 ·simp (maxSteps:=999999) (disch:=omega) only [go_sem,hlt]
  by_cases h1 : byteAt s j < 97
  ·simp (maxSteps:=999999) (disch:=omega) only [go_sem,hlt]
   have : anyN s.size (badByte s) = true:=anyN_at hlt (by simp [badByte,h1])
   simp [isName,this]
  ·by_cases h2 : 122 < byteAt s j
   ·simp (maxSteps:=999999) (disch:=omega) only [go_sem,hlt]
    have : anyN s.size (badByte s) = true:=anyN_at hlt (by simp [badByte,h2])
    simp [isName,this]
   ·simp (maxSteps:=999999) (disch:=omega) only [go_sem,hlt]
    refine ih _ hlt (step_all hp (by simp [badByte,h1,h2])) ?_
    simp only [go_sem]
 ·obtain rfl : j = s.size:=by omega
  have hn : anyN s.size (badByte s) = false:=anyN_false.2 hp
  simp (maxSteps:=999999) (disch:=omega) only [go_sem]
  by_cases h1 : s = ⟨#[]⟩
  ·simp (maxSteps:=999999) (disch:=omega) only [go_sem,h1]; simp [isName]
  ·by_cases h2 : s.size ≤ 6
   ·simp (maxSteps:=999999) (disch:=omega) only [go_sem,h1]
    simp [isName,hn,h1,h2]
   ·simp (maxSteps:=999999) (disch:=omega) only [go_sem,h1]
    simp [isName,hn,h1,h2]
theorem icheck_ok {d : Int} {s : Str} (hs : s.size ≤ 9223372036854775807) : Ok tblE cx Fn.ideal_check (St.enter [.int .i64 d,.str s] h) fun v h'=>v = .int .i64 (dirFaultN d s) ∧ h' = h:=by
 rw [Ok_eq]
 by_cases c1 : d < 0
 ·simp (maxSteps:=999999) (disch:=omega) only [go_sem,c1]; simp [dirFaultN,c1]
 ·by_cases c2 : 3 ≤ d
  ·simp (maxSteps:=999999) (disch:=omega) only [go_sem,c1,c2]; simp [dirFaultN,c2]
  ·simp (maxSteps:=999999) (disch:=omega) only [go_sem,c1,c2]
   refine W_callp rfl ⟨rfl,rfl⟩ (by simp only [go_sem]; exact NameX_ok hs) ?_
   cases c3 : isName s <;> simp (maxSteps:=999999) (disch:=omega) only [go_sem,c3] <;> simp [dirFaultN,c1,c2,c3]
theorem ICheck_ok {x : SStep} (h1 : x.name.size ≤ 9223372036854775807) (h2 : x.to.size ≤ 9223372036854775807) (h3 : x.text.size ≤ 9223372036854775807) : Ok tblE cx Fn.ideal_Check (St.enter [x.enc] h) fun v h'=>v = .int .i64 (stepFault x) ∧ h' = h:=by
 rw [Ok_eq]
 simp (maxSteps:=999999) (disch:=omega) only [go_sem]
 by_cases c1 : x.kind < 1
 ·simp (maxSteps:=999999) (disch:=omega) only [go_sem,c1]; simp [stepFault,c1]
 by_cases c2 : 6 < x.kind
 ·simp (maxSteps:=999999) (disch:=omega) only [go_sem,c1,c2]; simp [stepFault,c2]
 simp (maxSteps:=999999) (disch:=omega) only [go_sem,c1,c2]
 refine W_callp rfl ⟨rfl,rfl⟩ (by simp only [go_sem]; exact icheck_ok h1) ?_
 simp (maxSteps:=999999) (disch:=omega) only [go_sem]
 by_cases c3 : dirFaultN x.dir x.name = 0
 ·simp (maxSteps:=999999) (disch:=omega) only [go_sem,c3]
  by_cases c4 : x.kind = 2
  ·simp (maxSteps:=999999) (disch:=omega) only [go_sem,c4]
   refine W_callp rfl ⟨rfl,rfl⟩ (by simp only [go_sem]; exact icheck_ok h2) ?_
   simp (maxSteps:=999999) (disch:=omega) only [go_sem]; simp [stepFault,c3,c4]
  by_cases c5 : x.kind = 4
  ·simp (maxSteps:=999999) (disch:=omega) only [go_sem,c4,c5]
   refine W_callp rfl ⟨rfl,rfl⟩ (by simp only [go_sem]; exact icheck_ok h2) ?_
   simp (maxSteps:=999999) (disch:=omega) only [go_sem]; simp [stepFault,c3,c5]
  simp (maxSteps:=999999) (disch:=omega) only [go_sem,c4,c5]
  (repeat' (first | simp (maxSteps:=999999) (disch:=first | assumption | omega) only [go_sem] | refine WG_ndec (fun _=>?_) (fun _=>?_) | refine WC_ndec (fun _=>?_) (fun _=>?_) | refine WG_dec (fun _=>?_) (fun _=>?_) | refine WC_dec (fun _=>?_) (fun _=>?_) | refine WG_bool (fun _=>?_) (fun _=>?_) | refine WC_bool (fun _=>?_) (fun _=>?_))) <;> simp_all [stepFault] <;> omega
 ·simp (maxSteps:=999999) (disch:=omega) only [go_sem,c3]
  simp [stepFault,c1,c2,c3]
end
def freeIno (a b : Img) : Int:=findN 8 fun k=>!(a.ino k).live && decide (refs b k = 0)
def freeDat (a b : Img) : Int:=findN 9 fun x=>!held a x && !held b x
def room (a b : Img) (d : Int) (s : Str) : Int:=if 0 ≤ slotOf b d s then -1 else freeSlot a b d
def addName (a : Img) (d s : Nat) (name : Str) (n : Nat) : Img :=
 (a.setEnt d s ⟨name,n,(a.ino n).stamp⟩).setIno n { a.ino n with links:=IntKind.i64.wrap ((a.ino n).links + 1) }
def dropName (a : Img) (d s : Nat) : Img :=
 let n:=(a.ent d s).ino.toNat
 let i : Ino:={ a.ino n with links:=IntKind.i64.wrap ((a.ino n).links - 1) }
 if i.links = 0 then (a.setEnt d s .zero).setIno n .none else (a.setEnt d s .zero).setIno n i
def enterC (a b : Img) (d : Int) (name : Str) : Int:=if 0 ≤ slotOf a d name then 4 else if room a b d name < 0 then 6 else 0
def enterA (a b : Img) (d : Int) (name : Str) (n : Nat) : Img:=if enterC a b d name = 0 then addName a d.toNat (room a b d name).toNat name n else a
def newIno (st : Int) : Ino:=⟨true,st,0,Ino.none.part⟩
structure Fl where
 now : Img
 disk : Img
 stamp : Int
def makeC (F : Fl) (d : Int) (name : Str) : Int:=if 0 ≤ slotOf F.now d name then 4 else if freeIno F.now F.disk < 0 ∨ room F.now F.disk d name < 0 then 6 else 0
def makeF (F : Fl) (d : Int) (name : Str) : Fl:=if makeC F d name = 0 then
  ⟨addName (F.now.setIno (freeIno F.now F.disk).toNat (newIno (IntKind.i64.wrap (F.stamp + 1)))) d.toNat (room F.now F.disk d name).toNat name (freeIno F.now F.disk).toNat,F.disk,IntKind.i64.wrap (F.stamp + 1)⟩ else F
def putC (a b : Img) (n p : Nat) : Int:=if (a.ino n).prt p < 0 ∧ freeDat a b < 0 then 6 else 0
def putA (a b : Img) (n p : Nat) (t : Str) : Img:=if (a.ino n).prt p < 0 then
  (if freeDat a b < 0 then a else (a.setIno n ((a.ino n).setPrt p (freeDat a b))).setDat (freeDat a b).toNat ⟨(a.ino n).stamp,t⟩)
 else a.setDat ((a.ino n).prt p).toNat ⟨(a.ino n).stamp,t⟩
def doC (F : Fl) (x : SStep) : Int :=
 if stepFault x ≠ 0 then stepFault x else
 if x.kind = 1 then makeC F x.dir x.name else
 if slotOf F.now x.dir x.name < 0 then 5 else
 if x.kind = 2 ∨ x.kind = 4 then enterC F.now F.disk x.toDir x.to else
 if x.kind = 5 then putC F.now F.disk (F.now.ent x.dir.toNat (slotOf F.now x.dir x.name).toNat).ino.toNat x.p.toNat else 0
def doF (F : Fl) (x : SStep) : Fl :=
 if doC F x ≠ 0 then F else
 if x.kind = 1 then makeF F x.dir x.name else
 let s:=(slotOf F.now x.dir x.name).toNat
 let n:=(F.now.ent x.dir.toNat s).ino.toNat
 if x.kind = 2 then { F with now:=enterA F.now F.disk x.toDir x.to n } else
 if x.kind = 4 then { F with now:=dropName (enterA F.now F.disk x.toDir x.to n) x.dir.toNat s } else
 if x.kind = 3 then { F with now:=dropName F.now x.dir.toNat s } else
 if x.kind = 5 then { F with now:=putA F.now F.disk n x.p.toNat x.text } else
 { F with now:=F.now.setIno n ((F.now.ino n).setPrt x.p.toNat (-1)) }
def WF (a : Img) : Prop:=(∀ d s,0 ≤ (a.ent d s).ino ∧ (a.ent d s).ino < 8) ∧ ∀ n p,-1 ≤ (a.ino n).prt p ∧ (a.ino n).prt p < 9
theorem stepFault_zero {x : SStep} (h : stepFault x = 0) : (1 ≤ x.kind ∧ x.kind ≤ 6) ∧ (0 ≤ x.dir ∧ x.dir < 3) ∧ isName x.name = true ∧ (x.kind = 2 ∨ x.kind = 4 → (0 ≤ x.toDir ∧ x.toDir < 3) ∧ isName x.to = true) ∧ (x.kind = 5 ∨ x.kind = 6 → 0 ≤ x.p ∧ x.p < 2) ∧ (x.kind = 5 → x.text.size ≤ 8):=by
 unfold stepFault at h
 split at h
 ·omega
 split at h
 ·exact absurd h (by assumption)
 rename_i h1 h2
 have h2 : dirFaultN x.dir x.name = 0:=by simpa using h2
 have key : ∀ d s,dirFaultN d s = 0 → (0 ≤ d ∧ d < 3) ∧ isName s = true:=by
  intro d s hd
  unfold dirFaultN at hd
  split at hd
  ·omega
  ·split at hd
   ·rename_i h3 h4; exact ⟨by omega,h4⟩
   ·omega
 obtain ⟨k1,k2⟩:=key _ _ h2
 refine ⟨by omega,k1,k2,fun hk=>?_,fun hk=>?_,fun hk=>?_⟩
 ·rw [if_pos hk] at h; exact key _ _ h
 ·rw [if_neg (by omega)] at h
  split at h
  ·omega
  ·rename_i h3; omega
 ·rw [if_neg (by omega)] at h
  split at h
  ·omega
  ·split at h
   ·omega
   ·rename_i h3 h4; omega
theorem slotOf_cases (a : Img) (d : Int) (s : Str) : slotOf a d s = -1 ∨ ∃ k : Nat,k < 4 ∧ slotOf a d s = k ∧ 0 ≤ d ∧ d < 3 ∧ (a.ent d.toNat k).name = s ∧ ¬s = ⟨#[]⟩:=by
 unfold slotOf
 split
 ·exact .inl rfl
 ·rename_i hn
  rcases findN_lt (f:=fun k=>decide ((a.ent d.toNat k).name = s)) (n:=4) with e | ⟨j,h1,e,h2,_⟩
  ·exact .inl e
  ·exact .inr ⟨j,h1,e,by omega,by omega,by simpa using h2,fun e'=>hn (by simp [e'])⟩
theorem freeSlot_cases (a b : Img) (d : Int) : freeSlot a b d = -1 ∨ ∃ k : Nat,k < 4 ∧ freeSlot a b d = k ∧ 0 ≤ d ∧ d < 3 ∧ (a.ent d.toNat k).name = ⟨#[]⟩ ∧ (b.ent d.toNat k).name = ⟨#[]⟩:=by
 unfold freeSlot
 split
 ·exact .inl rfl
 ·rename_i hn
  rcases findN_lt (f:=fun s=>decide ((a.ent d.toNat s).name = ⟨#[]⟩) && decide ((b.ent d.toNat s).name = ⟨#[]⟩)) (n:=4) with e | ⟨j,h1,e,h2,_⟩
  ·exact .inl e
  ·simp at h2
   exact .inr ⟨j,h1,e,by omega,by omega,h2.1,h2.2⟩
theorem room_cases (a b : Img) (d : Int) (s : Str) : room a b d s = -1 ∨ ∃ k : Nat,k < 4 ∧ room a b d s = k ∧ 0 ≤ d ∧ d < 3 ∧ (a.ent d.toNat k).name = ⟨#[]⟩ ∧ (b.ent d.toNat k).name = ⟨#[]⟩ ∧ slotOf b d s < 0:=by
 unfold room
 split
 ·exact .inl rfl
 ·rename_i hn
  rcases freeSlot_cases a b d with e | ⟨k,h1,e,h2,h3,h4,h5⟩
  ·exact .inl e
  ·exact .inr ⟨k,h1,e,h2,h3,h4,h5,by omega⟩
theorem freeIno_cases (a b : Img) : freeIno a b = -1 ∨ ∃ k : Nat,k < 8 ∧ freeIno a b = k ∧ (a.ino k).live = false ∧ refs b k = 0:=by
 rcases findN_lt (f:=fun k=>!(a.ino k).live && decide (refs b k = 0)) (n:=8) with e | ⟨j,h1,e,h2,_⟩
 ·exact .inl e
 ·simp at h2; exact .inr ⟨j,h1,e,h2.1,h2.2⟩
theorem freeDat_cases (a b : Img) : freeDat a b = -1 ∨ ∃ k : Nat,k < 9 ∧ freeDat a b = k ∧ held a k = false ∧ held b k = false:=by
 rcases findN_lt (f:=fun x=>!held a x && !held b x) (n:=9) with e | ⟨j,h1,e,h2,_⟩
 ·exact .inl e
 ·simp at h2; exact .inr ⟨j,h1,e,h2.1,h2.2⟩
def encF (c : Nat) (st : Int) : AV:=.cons (.ptr (.obj c) [] tCache) (.cons (.int .i64 st) .unit)
@[go_sem] theorem at_F0 (c : Nat) (st : Int) : (encF c st).at [0] = some (.ptr (.obj c) [] tCache):=rfl
@[go_sem] theorem at_F1 (c : Nat) (st : Int) : (encF c st).at [1] = some (.int .i64 st):=rfl
@[go_sem] theorem put_F1 (c : Nat) (st n : Int) : (encF c st).put [1] (.int .i64 n) = some (encF c n):=rfl
@[go_sem] theorem field_F0 : tFiles.field 0 = some tP:=rfl
@[go_sem] theorem field_F1 : tFiles.field 1 = some tI:=rfl
@[go_sem] theorem fits_F (c : Nat) (st : Int) : (tFiles.fits (encF c st) = true) = True:=eq_true rfl
@[go_sem] theorem fitO_ptr (n : Nat) (p : List Nat) (t : Ty) : fitO tP (some (.ptr (.obj n) p t)) = some (.ptr (.obj n) p t):=rfl
@[go_sem] theorem fill_F (c : Nat) : fill tFiles tFiles.zero [(0,.ptr (.obj c) [] tCache)] = some (encF c 0):=rfl
@[go_sem] theorem fits_boxF (c : Nat) (st : Int) (i : Id) : fg (encF c st) i = encF c st:=rfl
@[go_sem] theorem fits_tP (n : Nat) (p : List Nat) (t : Ty) : (tP.fits (.ptr (.obj n) p t) = true) = True:=eq_true rfl
@[go_sem] theorem put_C0 (a b : Img) (p : List Nat) (x : AV) : (encC a b).put (0 :: p) x = (a.enc.put p x).map fun y=>.cons y (.cons b.enc .unit):=rfl
@[go_sem] theorem put_C1 (a b : Img) (p : List Nat) (x : AV) : (encC a b).put (1 :: p) x = (b.enc.put p x).map fun y=>.cons a.enc (.cons y .unit):=by
 show ((b.enc.put p x).map fun y=>AV.cons y .unit).map (fun y=>AV.cons a.enc y) = _
 cases b.enc.put p x <;> rfl
@[go_sem] theorem Cmk (a b : Img) : AV.cons a.enc (.cons b.enc .unit) = encC a b:=rfl
@[go_sem] theorem results_nil {cx : Cx} {s : St} : results cx s [] = some (.tup .unit):=rfl
theorem ob_self {h : HP} {n : Nat} {t : Ty} {v : AV} (e : h.look (.obj n) = some ⟨t,v⟩) : h.ob n t v = h:=by
 cases h
 simp only [HP.look] at e
 simp only [HP.ob,HP.set,HP.mk.injEq,and_true,true_and]
 funext k
 by_cases hk : k = n <;> simp [hk,e]
section
variable {cx : Cx} {h : HP} {c : Nat} {a b : Img}
theorem eDisk (hC : h.look (.obj c) = some ⟨tCache,encC a b⟩) : Ok tblE cx Fn.cache_Cache_Disk (St.enter [.ptr (.obj c) [] tCache] h) fun v h'=>v = b.enc ∧ h' = h:=upE (CDisk_ok (rd_of hC).1 (rd_of hC).2)
theorem eInode (hC : h.look (.obj c) = some ⟨tCache,encC a b⟩) : Ok tblE cx Fn.cache_Cache_Inode (St.enter [.ptr (.obj c) [] tCache] h) fun v h'=>v = .int .i64 (freeIno a b) ∧ h' = h:=upE (CInode_ok (rd_of hC).1 (rd_of hC).2)
theorem eData (hC : h.look (.obj c) = some ⟨tCache,encC a b⟩) : Ok tblE cx Fn.cache_Cache_Data (St.enter [.ptr (.obj c) [] tCache] h) fun v h'=>v = .int .i64 (freeDat a b) ∧ h' = h:=upE (CData_ok (rd_of hC).1 (rd_of hC).2)
theorem eSlot {d : Int} (hC : h.look (.obj c) = some ⟨tCache,encC a b⟩) : Ok tblE cx Fn.cache_Cache_Slot (St.enter [.ptr (.obj c) [] tCache,.int .i64 d] h) fun v h'=>v = .int .i64 (freeSlot a b d) ∧ h' = h:=upE (CSlot_ok (rd_of hC).1 (rd_of hC).2)
theorem eFind0 {d : Int} {s : Str} (hC : h.look (.obj c) = some ⟨tCache,encC a b⟩) : Ok tblE cx Fn.image_Find (St.enter [.ptr (.obj c) [0] tImage,.int .i64 d,.str s] h) fun v h'=>v = .int .i64 (slotOf a d s) ∧ h' = h:=upE (up (Find_ok (below_obj _ _) (rd_of hC).1))
theorem free_ok {f : Nat} {st d : Int} {s : Str} (hF : h.look (.obj f) = some ⟨tFiles,encF c st⟩) (hC : h.look (.obj c) = some ⟨tCache,encC a b⟩) :
  Ok tblE cx Fn.soft_Files_free (St.enter [.ptr (.obj f) [] tFiles,.int .i64 d,.str s] h) fun v h'=>v = .int .i64 (room a b d s) ∧ h' = h:=by
 rw [Ok_eq]
 simp (maxSteps:=999999) (disch:=omega) only [go_sem,hF,hC]
 refine W_callp rfl ⟨rfl,rfl⟩ (by simp only [go_sem]; exact eDisk (a:=a) (b:=b) (by simp only [go_sem,hC])) ?_
 simp (maxSteps:=999999) (disch:=omega) only [go_sem,hF,hC]
 refine W_callp rfl ⟨rfl,rfl⟩ (by simp only [go_sem]; exact upE (up (Find_ok (m:=b) (below_stk _ _) (by simp only [go_sem,HP.push_rd_own])))) ?_
 simp (maxSteps:=999999) (disch:=omega) only [go_sem,hF,hC]
 by_cases c1 : 0 ≤ slotOf b d s
 ·simp (maxSteps:=999999) (disch:=omega) only [go_sem,c1]; simp [room,c1]
 ·simp (maxSteps:=999999) (disch:=omega) only [go_sem,c1,hF,hC]
  refine W_callp rfl ⟨rfl,rfl⟩ (by simp only [go_sem]; exact eSlot (a:=a) (b:=b) (by simp only [go_sem,hC])) ?_
  simp (maxSteps:=999999) (disch:=omega) only [go_sem]; simp [room,c1]
theorem enter_ok {f n : Nat} {st d : Int} {s : Str} (hl : ∀ n,cx.prot.lets (.obj n) = true) (hF : h.look (.obj f) = some ⟨tFiles,encF c st⟩) (hC : h.look (.obj c) = some ⟨tCache,encC a b⟩) (hne : ¬f = c) (hn : n < 8) :
  Ok tblE cx Fn.soft_Files_enter (St.enter [.ptr (.obj f) [] tFiles,.int .i64 d,.str s,.int .i64 n] h) fun v h'=>v = .int .i64 (enterC a b d s) ∧ h' = h.ob c tCache (encC (enterA a b d s n) b):=by
 rw [Ok_eq]
 simp (maxSteps:=999999) (disch:=omega) only [go_sem,hF,hC]
 refine W_callp rfl ⟨rfl,rfl⟩ (by simp only [go_sem]; exact eFind0 (a:=a) (b:=b) (by simp only [go_sem,hC])) ?_
 simp (maxSteps:=999999) (disch:=omega) only [go_sem]
 by_cases c1 : 0 ≤ slotOf a d s
 ·simp (maxSteps:=999999) (disch:=omega) only [go_sem,c1]
  simp [enterC,enterA,c1,ob_self hC]
 simp (maxSteps:=999999) (disch:=omega) only [go_sem,c1]
 refine W_callp rfl ⟨rfl,rfl⟩ (by simp only [go_sem]; exact free_ok (a:=a) (b:=b) (c:=c) (st:=st) (by simp only [go_sem,hF]) (by simp only [go_sem,hC])) ?_
 simp (maxSteps:=999999) (disch:=omega) only [go_sem]
 rcases room_cases a b d s with e | ⟨k,hk,e,d0,d3,_⟩
 ·simp (maxSteps:=999999) (disch:=omega) only [go_sem,e]
  simp [enterC,enterA,c1,e,ob_self hC]
 ·have k0 : ¬(k : Int) < 0:=by omega
  simp (maxSteps:=999999) (disch:=omega) only [go_sem,e,k0,hF,hC,stV_ob (hl _),look_ob_ne hne]
  simp [enterC,enterA,c1,e,k0,addName]
end
theorem setIno_setIno (m : Img) (n : Nat) (x y : Ino) : (m.setIno n x).setIno n y = m.setIno n y:=by
 refine Img.ext_of (fun k hk=>?_) (fun d s _ _=>rfl) (fun x _=>rfl)
 simp only [ino_setIno]
 split <;> rfl
theorem enterC_setIno (a b : Img) (n : Nat) (y : Ino) (d : Int) (s : Str) : enterC (a.setIno n y) b d s = enterC a b d s:=rfl
theorem room_setIno (a b : Img) (n : Nat) (y : Ino) (d : Int) (s : Str) : room (a.setIno n y) b d s = room a b d s:=rfl
theorem WF_setIno {a : Img} (hw : WF a) {n : Nat} {y : Ino} (hy : ∀ p,-1 ≤ y.prt p ∧ y.prt p < 9) : WF (a.setIno n y):=by
 refine ⟨hw.1,fun k p=>?_⟩
 rw [ino_setIno]
 split
 ·exact hy p
 ·exact hw.2 k p
theorem WF_setEnt {a : Img} (hw : WF a) {d s : Nat} {y : Ent} (hy : 0 ≤ y.ino ∧ y.ino < 8) : WF (a.setEnt d s y):=by
 refine ⟨fun d' s'=>?_,fun k p=>?_⟩
 ·rw [ent_setEnt]
  split
  ·exact hy
  ·exact hw.1 d' s'
 ·rw [ino_setEnt]; exact hw.2 k p
theorem WF_setDat {a : Img} (hw : WF a) {n : Nat} {y : Dat} : WF (a.setDat n y):=hw
theorem prt_none (p : Nat) : -1 ≤ Ino.none.prt p ∧ Ino.none.prt p < 9:=by
 by_cases hp : p < 2
 ·simp [Ino.prt,Ino.none,hp]
 ·simp [Ino.prt,hp]
theorem prt_with (i : Ino) (l : Int) (p : Nat) : Ino.prt ⟨i.live,i.stamp,l,i.part⟩ p = i.prt p:=rfl
theorem prt_new (st : Int) (p : Nat) : (newIno st).prt p = Ino.none.prt p:=rfl
theorem WF_addName {a : Img} (hw : WF a) {d s n : Nat} {name : Str} (n8 : n < 8) : WF (addName a d s name n) :=
 WF_setIno (WF_setEnt hw ⟨by show 0 ≤ (n : Int); omega,by show (n : Int) < 8; omega⟩) fun p=>by rw [prt_with]; exact hw.2 n p
theorem WF_dropName {a : Img} (hw : WF a) {d s : Nat} : WF (dropName a d s):=by
 have h0 : WF (a.setEnt d s .zero):=WF_setEnt hw ⟨by decide,by decide⟩
 unfold dropName
 dsimp only
 split
 ·exact WF_setIno h0 prt_none
 ·exact WF_setIno h0 fun p=>by rw [prt_with]; exact hw.2 _ p
theorem WF_enterA {a b : Img} (hw : WF a) {d : Int} {s : Str} {n : Nat} (n8 : n < 8) : WF (enterA a b d s n):=by
 unfold enterA
 split
 ·exact WF_addName hw n8
 ·exact hw
theorem WF_makeF {F : Fl} (hw : WF F.now) {d : Int} {s : Str} : WF (makeF F d s).now:=by
 unfold makeF
 split
 ·rename_i hm
  rcases freeIno_cases F.now F.disk with e | ⟨n,n8,e,_⟩
  ·unfold makeC at hm
   split at hm
   ·omega
   ·rw [if_pos (.inl (by omega))] at hm; omega
  ·rw [e]
   exact WF_addName (WF_setIno hw fun p=>by rw [prt_new]; exact prt_none p) (by simpa using n8)
 ·exact hw
theorem WF_putA {a b : Img} (hw : WF a) {n p : Nat} {t : Str} : WF (putA a b n p t):=by
 unfold putA
 split
 ·split
  ·exact hw
  ·rcases freeDat_cases a b with e | ⟨k,k9,e,_⟩
   ·omega
   ·refine WF_setDat (WF_setIno hw fun q=>?_)
    rw [prt_setPrt,e]
    split
    ·omega
    ·exact hw.2 n q
 ·exact WF_setDat hw
theorem WF_doF {F : Fl} (hw : WF F.now) (x : SStep) : WF (doF F x).now:=by
 have n8 : ∀ d s,(F.now.ent d s).ino.toNat < 8:=fun d s=>by have:=hw.1 d s; omega
 unfold doF
 split
 ·exact hw
 split
 ·exact WF_makeF hw
 dsimp only
 split
 ·exact WF_enterA hw (n8 _ _)
 split
 ·exact WF_dropName (WF_enterA hw (n8 _ _))
 split
 ·exact WF_dropName hw
 split
 ·exact WF_putA hw
 ·refine WF_setIno hw fun q=>?_
  rw [prt_setPrt]
  split
  ·omega
  ·exact hw.2 _ q
section
variable {cx : Cx} {h : HP} {f c : Nat} {a b : Img} {st : Int}
theorem leave_ok {d s : Int} (hl : ∀ n,cx.prot.lets (.obj n) = true) (hF : h.look (.obj f) = some ⟨tFiles,encF c st⟩) (hC : h.look (.obj c) = some ⟨tCache,encC a b⟩) (hne : ¬f = c)
  (d0 : 0 ≤ d) (d3 : d < 3) (s0 : 0 ≤ s) (s4 : s < 4) (i0 : 0 ≤ (a.ent d.toNat s.toNat).ino) (i8 : (a.ent d.toNat s.toNat).ino < 8) :
  Ok tblE cx Fn.soft_Files_leave (St.enter [.ptr (.obj f) [] tFiles,.int .i64 d,.int .i64 s] h) fun v h'=>v = .tup .unit ∧ h' = h.ob c tCache (encC (dropName a d.toNat s.toNat) b):=by
 have n8 : (a.ent d.toNat s.toNat).ino.toNat < 8:=by omega
 rw [Ok_eq]
 simp (maxSteps:=999999) (disch:=omega) only [go_sem,hF,hC,stV_ob (hl _),look_ob_ne hne,n8]
 by_cases c1 : IntKind.i64.wrap ((a.ino (a.ent d.toNat s.toNat).ino.toNat).links - 1) = 0
 ·simp (maxSteps:=999999) (disch:=omega) only [go_sem,hF,hC,stV_ob (hl _),look_ob_ne hne,n8,c1]
  refine W_callp rfl ⟨rfl,rfl⟩ (by simp only [go_sem]; exact upE (up (Free_ok))) ?_
  simp (maxSteps:=999999) (disch:=omega) only [go_sem,hF,hC,stV_ob (hl _),look_ob_ne hne,n8,c1]
  simp [dropName,c1,setIno_setIno]
 ·simp (maxSteps:=999999) (disch:=omega) only [go_sem,hF,hC,stV_ob (hl _),look_ob_ne hne,n8,c1]
  simp [dropName,c1]
theorem make_ok {F : Fl} {d : Int} {s : Str} (hl : ∀ n,cx.prot.lets (.obj n) = true) (hF : h.look (.obj f) = some ⟨tFiles,encF c F.stamp⟩) (hC : h.look (.obj c) = some ⟨tCache,encC F.now F.disk⟩) (hne : ¬f = c) :
  Ok tblE cx Fn.soft_Files_make (St.enter [.ptr (.obj f) [] tFiles,.int .i64 d,.str s] h) fun v h'=>v = .int .i64 (makeC F d s) ∧ h' = (h.ob f tFiles (encF c (makeF F d s).stamp)).ob c tCache (encC (makeF F d s).now F.disk):=by
 rw [Ok_eq]
 have same : (h.ob f tFiles (encF c F.stamp)).ob c tCache (encC F.now F.disk) = h:=by rw [ob_self hF,ob_self hC]
 have hne' : ¬c = f:=fun e=>hne e.symm
 simp (maxSteps:=999999) (disch:=omega) only [go_sem,hF,hC]
 refine W_callp rfl ⟨rfl,rfl⟩ (by simp only [go_sem]; exact eFind0 (a:=F.now) (b:=F.disk) (by simp only [go_sem,hC])) ?_
 simp (maxSteps:=999999) (disch:=omega) only [go_sem]
 by_cases c1 : 0 ≤ slotOf F.now d s
 ·simp (maxSteps:=999999) (disch:=omega) only [go_sem,c1]
  simp [makeC,makeF,c1,same]
 simp (maxSteps:=999999) (disch:=omega) only [go_sem,c1,hF,hC]
 refine W_callp rfl ⟨rfl,rfl⟩ (by simp only [go_sem]; exact eInode (a:=F.now) (b:=F.disk) (by simp only [go_sem,hC])) ?_
 simp (maxSteps:=999999) (disch:=omega) only [go_sem]
 rcases freeIno_cases F.now F.disk with e | ⟨n,n8,e,_⟩
 ·simp (maxSteps:=999999) (disch:=omega) only [go_sem,e]
  simp [makeC,makeF,c1,e,same]
 have n0 : ¬(n : Int) < 0:=by omega
 simp (maxSteps:=999999) (disch:=omega) only [go_sem,e,n0]
 refine W_callp rfl ⟨rfl,rfl⟩ (by simp only [go_sem]; exact free_ok (a:=F.now) (b:=F.disk) (c:=c) (st:=F.stamp) (by simp only [go_sem,hF]) (by simp only [go_sem,hC])) ?_
 simp (maxSteps:=999999) (disch:=omega) only [go_sem]
 rcases room_cases F.now F.disk d s with e2 | ⟨k,k4,e2,d0,d3,_⟩
 ·simp (maxSteps:=999999) (disch:=omega) only [go_sem,e2]
  simp [makeC,makeF,c1,e,e2,same]
 have k0 : ¬(k : Int) < 0:=by omega
 simp (maxSteps:=999999) (disch:=omega) only [go_sem,e2,k0,hF,hC,stV_ob (hl _),look_ob_ne hne,look_ob_ne hne']
 refine W_callp rfl ⟨rfl,rfl⟩ (by simp only [go_sem]; exact upE (up (Free_ok))) ?_
 simp (maxSteps:=999999) (disch:=omega) only [go_sem,hF,hC,stV_ob (hl _),look_ob_ne hne,look_ob_ne hne',n8]
 rw [setIno_setIno,setIno_setIno]
 have eC : enterC F.now F.disk d s = 0:=by simp [enterC,c1,e2,k0]
 have mC : makeC F d s = 0:=by simp [makeC,c1,e,e2,n0,k0]
 have mF : makeF F d s = ⟨addName (F.now.setIno n (newIno (IntKind.i64.wrap (F.stamp + 1)))) d.toNat k s n,F.disk,IntKind.i64.wrap (F.stamp + 1)⟩:=by
  simp [makeF,mC,e,e2]
 have eA : enterA (F.now.setIno n (newIno (IntKind.i64.wrap (F.stamp + 1)))) F.disk d s n = (makeF F d s).now:=by
  rw [mF,enterA,if_pos (by rw [enterC_setIno]; exact eC),room_setIno,e2]; rfl
 have key:=fun (cy : Cx) (hy : ∀ n,cy.prot.lets (.obj n) = true)=>enter_ok (cx:=cy) (f:=f) (c:=c) (h:=((h.ob f tFiles (encF c (IntKind.i64.wrap (F.stamp + 1)))).ob c tCache (encC (F.now.setIno n (newIno (IntKind.i64.wrap (F.stamp + 1)))) F.disk)).push cx.lvl []) (a:=F.now.setIno n (newIno (IntKind.i64.wrap (F.stamp + 1)))) (b:=F.disk) (st:=IntKind.i64.wrap (F.stamp + 1)) (d:=d) (s:=s) (n:=n) hy (by simp only [go_sem,look_ob_ne hne]) (by simp only [go_sem,]) hne n8
 simp only [eA,enterC_setIno,eC,go_sem] at key
 have mS : (makeF F d s).stamp = IntKind.i64.wrap (F.stamp + 1):=by rw [mF]
 rw [mC,mS]
 refine W_callh (v:=.int .i64 0) ((h.ob f tFiles (encF c (IntKind.i64.wrap (F.stamp + 1)))).ob c tCache (encC (makeF F d s).now F.disk)) rfl ⟨rfl,rfl⟩ rfl (by simp only [go_sem]; exact key _ hl) ?_
 simp (maxSteps:=999999) (disch:=omega) only [go_sem]
end
section
variable {cx : Cx} {h : HP} {f c : Nat} {a b : Img} {st : Int}
theorem put_ok {n : Nat} {p : Int} {t : Str} (hl : ∀ n,cx.prot.lets (.obj n) = true) (hF : h.look (.obj f) = some ⟨tFiles,encF c st⟩) (hC : h.look (.obj c) = some ⟨tCache,encC a b⟩) (hne : ¬f = c)
  (hw : WF a) (n8 : n < 8) (p0 : 0 ≤ p) (p2 : p < 2) :
  Ok tblE cx Fn.soft_Files_put (St.enter [.ptr (.obj f) [] tFiles,.int .i64 n,.int .i64 p,.str t] h) fun v h'=>v = .int .i64 (putC a b n p.toNat) ∧ h' = h.ob c tCache (encC (putA a b n p.toNat t) b):=by
 have p2' : p.toNat < 2:=by omega
 have q9:=(hw.2 n p.toNat).2
 rw [Ok_eq]
 simp (maxSteps:=999999) (disch:=omega) only [go_sem,hF,hC,stV_ob (hl _),look_ob_ne hne]
 by_cases c1 : (a.ino n).prt p.toNat < 0
 ·simp (maxSteps:=999999) (disch:=omega) only [go_sem,hF,hC,stV_ob (hl _),look_ob_ne hne,c1]
  refine W_callp rfl ⟨rfl,rfl⟩ (by simp only [go_sem]; exact eData (a:=a) (b:=b) (by simp only [go_sem,hC])) ?_
  simp (maxSteps:=999999) (disch:=omega) only [go_sem]
  rcases freeDat_cases a b with e | ⟨k,k9,e,_⟩
  ·simp (maxSteps:=999999) (disch:=omega) only [go_sem,e]
   simp [putC,putA,c1,e,ob_self hC]
  ·have k0 : ¬(k : Int) < 0:=by omega
   simp (maxSteps:=999999) (disch:=omega) only [go_sem,e,k0,hF,hC,stV_ob (hl _),look_ob_ne hne,n8,p2']
   simp [putC,putA,c1,e,k0]
 ·simp (maxSteps:=999999) (disch:=omega) only [go_sem,hF,hC,stV_ob (hl _),look_ob_ne hne,c1]
  simp [putC,putA,c1]
theorem Do_ok {F : Fl} {x : SStep} (hl : ∀ n,cx.prot.lets (.obj n) = true) (hF : h.look (.obj f) = some ⟨tFiles,encF c F.stamp⟩) (hC : h.look (.obj c) = some ⟨tCache,encC F.now F.disk⟩) (hne : ¬f = c)
  (hw : WF F.now) (h1 : x.name.size ≤ 9223372036854775807) (h2 : x.to.size ≤ 9223372036854775807) (h3 : x.text.size ≤ 9223372036854775807) :
  Ok tblE cx Fn.soft_Files_Do (St.enter [.ptr (.obj f) [] tFiles,x.enc] h) fun v h'=>v = .int .i64 (doC F x) ∧ h' = (h.ob f tFiles (encF c (doF F x).stamp)).ob c tCache (encC (doF F x).now F.disk):=by
 rw [Ok_eq]
 have same : (h.ob f tFiles (encF c F.stamp)).ob c tCache (encC F.now F.disk) = h:=by rw [ob_self hF,ob_self hC]
 have sameF : ∀ v,(h.ob f tFiles (encF c F.stamp)).ob c tCache v = h.ob c tCache v:=fun v=>by rw [ob_self hF]
 have hne' : ¬c = f:=fun e=>hne e.symm
 simp (maxSteps:=999999) (disch:=omega) only [go_sem]
 refine W_callp rfl ⟨rfl,rfl⟩ (by simp only [go_sem]; exact ICheck_ok h1 h2 h3) ?_
 simp (maxSteps:=999999) (disch:=omega) only [go_sem]
 by_cases c0 : stepFault x = 0
 rotate_left
 ·simp (maxSteps:=999999) (disch:=omega) only [go_sem,c0]
  simp [doC,doF,c0,same]
 obtain ⟨⟨k1,k6⟩,⟨d0,d3⟩,hn,hto,hp,htx⟩:=stepFault_zero c0
 simp (maxSteps:=999999) (disch:=omega) only [go_sem,c0]
 by_cases c1 : x.kind = 1
 ·simp (maxSteps:=999999) (disch:=omega) only [go_sem,c1]
  refine W_callh (v:=.int .i64 (makeC F x.dir x.name)) ((h.ob f tFiles (encF c (makeF F x.dir x.name).stamp)).ob c tCache (encC (makeF F x.dir x.name).now F.disk)) rfl ⟨rfl,rfl⟩ rfl (by simp only [go_sem]; exact make_ok hl hF hC hne) ?_
  simp (maxSteps:=999999) (disch:=omega) only [go_sem]
  by_cases e : makeC F x.dir x.name = 0 <;> simp [doC,doF,c0,c1,e,makeF]
 simp (maxSteps:=999999) (disch:=omega) only [go_sem,c1,hF,hC]
 refine W_callp rfl ⟨rfl,rfl⟩ (by simp only [go_sem]; exact eFind0 (a:=F.now) (b:=F.disk) (by simp only [go_sem,hC])) ?_
 simp (maxSteps:=999999) (disch:=omega) only [go_sem]
 rcases slotOf_cases F.now x.dir x.name with e | ⟨s,s4,e,_⟩
 ·simp (maxSteps:=999999) (disch:=omega) only [go_sem,e]
  simp [doC,doF,c0,c1,e,same]
 have s0 : ¬(s : Int) < 0:=by omega
 have i0:=(hw.1 x.dir.toNat s).1
 have i8:=(hw.1 x.dir.toNat s).2
 have n8 : (F.now.ent x.dir.toNat s).ino.toNat < 8:=by omega
 have ni : (((F.now.ent x.dir.toNat s).ino.toNat : Nat) : Int) = (F.now.ent x.dir.toNat s).ino:=by omega
 simp (maxSteps:=999999) (disch:=omega) only [go_sem,e,s0,hF,hC]
 have enter:=fun (cy : Cx) (hy : ∀ n,cy.prot.lets (.obj n) = true) (o : Own)=>enter_ok (cx:=cy) (h:=h.push cx.lvl o) (f:=f) (c:=c) (a:=F.now) (b:=F.disk) (st:=F.stamp) (d:=x.toDir) (s:=x.to) (n:=(F.now.ent x.dir.toNat s).ino.toNat) hy (by simp only [go_sem,hF]) (by simp only [go_sem,hC]) hne n8
 simp only [ni,go_sem] at enter
 by_cases c2 : x.kind = 2
 ·simp (maxSteps:=999999) (disch:=omega) only [go_sem,c2]
  refine W_callh (v:=.int .i64 (enterC F.now F.disk x.toDir x.to)) (h.ob c tCache (encC (enterA F.now F.disk x.toDir x.to (F.now.ent x.dir.toNat s).ino.toNat) F.disk)) rfl ⟨rfl,rfl⟩ rfl (by simp only [go_sem]; exact enter _ (by exact hl) _) ?_
  simp (maxSteps:=999999) (disch:=omega) only [go_sem]
  by_cases e2 : enterC F.now F.disk x.toDir x.to = 0 <;> simp [doC,doF,c0,c1,c2,e,s0,e2,enterA,sameF]
 by_cases c4 : x.kind = 4
 ·simp (maxSteps:=999999) (disch:=omega) only [go_sem,c2,c4]
  refine W_callh (v:=.int .i64 (enterC F.now F.disk x.toDir x.to)) (h.ob c tCache (encC (enterA F.now F.disk x.toDir x.to (F.now.ent x.dir.toNat s).ino.toNat) F.disk)) rfl ⟨rfl,rfl⟩ rfl (by simp only [go_sem]; exact enter _ (by exact hl) _) ?_
  simp (maxSteps:=999999) (disch:=omega) only [go_sem]
  by_cases e2 : enterC F.now F.disk x.toDir x.to = 0
  ·simp (maxSteps:=999999) (disch:=omega) only [go_sem,e2]
   have hw2:=WF_enterA (b:=F.disk) hw (d:=x.toDir) (s:=x.to) n8
   have leave:=fun (cy : Cx) (hy : ∀ n,cy.prot.lets (.obj n) = true) (o : Own)=>leave_ok (cx:=cy) (h:=(h.ob c tCache (encC (enterA F.now F.disk x.toDir x.to (F.now.ent x.dir.toNat s).ino.toNat) F.disk)).push cx.lvl o) (f:=f) (c:=c) (a:=enterA F.now F.disk x.toDir x.to (F.now.ent x.dir.toNat s).ino.toNat) (b:=F.disk) (st:=F.stamp) (d:=x.dir) (s:=s) hy (by simp only [go_sem,hF,look_ob_ne hne]) (by simp only [go_sem,]) hne d0 d3 (Int.natCast_nonneg s) (by omega) (hw2.1 _ _).1 (hw2.1 _ _).2
   simp only [go_sem] at leave
   refine W_callh (v:=.tup .unit) (h.ob c tCache (encC (dropName (enterA F.now F.disk x.toDir x.to (F.now.ent x.dir.toNat s).ino.toNat) x.dir.toNat s) F.disk)) rfl ⟨rfl,rfl⟩ rfl (by simp only [go_sem]; exact leave _ (by exact hl) _) ?_
   simp (maxSteps:=999999) (disch:=omega) only [go_sem]
   simp [doC,doF,c0,c1,c2,c4,e,s0,e2,sameF]
  ·simp (maxSteps:=999999) (disch:=omega) only [go_sem,e2]
   simp [doC,doF,c0,c1,c2,c4,e,s0,e2,enterA,same,ob_self hC]
 by_cases c3 : x.kind = 3
 ·simp (maxSteps:=999999) (disch:=omega) only [go_sem,c2,c4,c3]
  refine W_callh (v:=.tup .unit) (h.ob c tCache (encC (dropName F.now x.dir.toNat s) F.disk)) rfl ⟨rfl,rfl⟩ rfl (by simp only [go_sem]; exact leave_ok (a:=F.now) (b:=F.disk) (st:=F.stamp) hl (by simp only [go_sem,hF]) (by simp only [go_sem,hC]) hne d0 d3 (Int.natCast_nonneg s) (by omega) (by simpa using i0) (by simpa using i8)) ?_
  simp (maxSteps:=999999) (disch:=omega) only [go_sem]
  simp [doC,doF,c0,c1,c2,c3,c4,e,s0,sameF]
 by_cases c5 : x.kind = 5
 ·simp (maxSteps:=999999) (disch:=omega) only [go_sem,c2,c4,c3,c5]
  have put:=fun (cy : Cx) (hy : ∀ n,cy.prot.lets (.obj n) = true) (o : Own)=>put_ok (cx:=cy) (h:=h.push cx.lvl o) (f:=f) (c:=c) (a:=F.now) (b:=F.disk) (st:=F.stamp) (p:=x.p) (t:=x.text) (n:=(F.now.ent x.dir.toNat s).ino.toNat) hy (by simp only [go_sem,hF]) (by simp only [go_sem,hC]) hne hw n8 (hp (.inl c5)).1 (hp (.inl c5)).2
  simp only [ni,go_sem] at put
  refine W_callh (v:=.int .i64 (putC F.now F.disk (F.now.ent x.dir.toNat s).ino.toNat x.p.toNat)) (h.ob c tCache (encC (putA F.now F.disk (F.now.ent x.dir.toNat s).ino.toNat x.p.toNat x.text) F.disk)) rfl ⟨rfl,rfl⟩ rfl (by simp only [go_sem]; exact put _ (by exact hl) _) ?_
  simp (maxSteps:=999999) (disch:=omega) only [go_sem]
  by_cases e2 : putC F.now F.disk (F.now.ent x.dir.toNat s).ino.toNat x.p.toNat = 0
  ·simp [doC,doF,c0,c1,c2,c3,c4,c5,e,s0,e2,sameF]
  ·have : putA F.now F.disk (F.now.ent x.dir.toNat s).ino.toNat x.p.toNat x.text = F.now:=by
    have e3 : (F.now.ino (F.now.ent x.dir.toNat s).ino.toNat).prt x.p.toNat < 0 ∧ freeDat F.now F.disk < 0:=by
     simp only [putC] at e2; split at e2
     ·assumption
     ·exact absurd rfl e2
    simp [putA,e3.1,e3.2]
   simp [doC,doF,c0,c1,c2,c3,c4,c5,e,s0,e2,this,same,ob_self hC]
 have c6 : x.kind = 6:=by omega
 have hp0:=(hp (.inr c6)).1
 have hp2:=(hp (.inr c6)).2
 simp (maxSteps:=999999) (disch:=omega) only [go_sem,c2,c4,c3,c5,c6,hF,hC,stV_ob (hl _),look_ob_ne hne]
 simp [doC,doF,c0,c1,c2,c3,c4,c5,e,s0,sameF]
def readC (a : Img) (d : Int) (s : Str) (p : Int) : Int :=
 if stepFault ⟨6,d,0,p,s,⟨#[]⟩,⟨#[]⟩⟩ ≠ 0 then stepFault ⟨6,d,0,p,s,⟨#[]⟩,⟨#[]⟩⟩ else if slotOf a d s < 0 then 5 else 0
def readX (a : Img) (d : Int) (s : Str) (p : Int) : Int:=(a.ino (a.ent d.toNat (slotOf a d s).toNat).ino.toNat).prt p.toNat
def readB (a : Img) (d : Int) (s : Str) (p : Int) : Bool:=decide (readC a d s p = 0) && !decide (readX a d s p < 0)
def readT (a : Img) (d : Int) (s : Str) (p : Int) : Str:=if readB a d s p = true then (a.dat (readX a d s p).toNat).text else ⟨#[]⟩
def sameB (a : Img) (d : Int) (s : Str) (e : Int) (t : Str) : Bool:=decide (0 ≤ slotOf a d s) && decide (0 ≤ slotOf a e t) &&
 decide ((a.ent d.toNat (slotOf a d s).toNat).ino = (a.ent e.toNat (slotOf a e t).toNat).ino)
def sureB (a b : Img) (d : Int) (s : Str) : Bool:=decide (0 ≤ slotOf a d s) && decide (b.ent d.toNat (slotOf a d s).toNat = a.ent d.toNat (slotOf a d s).toNat)
def encR (t : Str) (b : Bool) (c : Int) : AV:=.tup (.cons (.str t) (.cons (.bool b) (.cons (.int .i64 c) .unit)))
@[go_sem] theorem fill_step1 (k d p : Int) (s : Str) : fill tStep tStep.zero [(0,.int .i64 k),(1,.int .i64 d),(4,.str s),(3,.int .i64 p)] = some (SStep.enc ⟨k,d,0,p,s,⟨#[]⟩,⟨#[]⟩⟩):=rfl
@[go_sem] theorem encR_mk (t : Str) (b : Bool) (c : Int) : some (AV.tup (.cons (.str t) (.cons (.bool b) (.cons (.int .i64 c) .unit)))) = some (encR t b c):=rfl
theorem Read_ok {d p : Int} {s : Str} (hF : h.look (.obj f) = some ⟨tFiles,encF c st⟩) (hC : h.look (.obj c) = some ⟨tCache,encC a b⟩) (hw : WF a) (hs : s.size ≤ 9223372036854775807) :
  Ok tblE cx Fn.soft_Files_Read (St.enter [.ptr (.obj f) [] tFiles,.int .i64 d,.str s,.int .i64 p] h) fun v h'=>v = encR (readT a d s p) (readB a d s p) (readC a d s p) ∧ h' = h:=by
 rw [Ok_eq]
 simp (maxSteps:=999999) (disch:=omega) only [go_sem]
 refine W_callp rfl ⟨rfl,rfl⟩ (by simp only [go_sem]; exact ICheck_ok (x:=⟨6,d,0,p,s,⟨#[]⟩,⟨#[]⟩⟩) hs (Nat.zero_le _) (Nat.zero_le _)) ?_
 simp (maxSteps:=999999) (disch:=omega) only [go_sem]
 by_cases c0 : stepFault ⟨6,d,0,p,s,⟨#[]⟩,⟨#[]⟩⟩ = 0
 rotate_left
 ·simp (maxSteps:=999999) (disch:=omega) only [go_sem,c0]
  simp [readC,readB,readT,c0,encR]
 obtain ⟨_,⟨d0,d3⟩,_,_,hp,_⟩:=stepFault_zero c0
 obtain ⟨p0,p2⟩:=hp (.inr rfl)
 simp only at d0 d3 p0 p2
 simp (maxSteps:=999999) (disch:=omega) only [go_sem,c0,hF,hC]
 refine W_callp rfl ⟨rfl,rfl⟩ (by simp only [go_sem]; exact eFind0 (a:=a) (b:=b) (by simp only [go_sem,hC])) ?_
 simp (maxSteps:=999999) (disch:=omega) only [go_sem]
 rcases slotOf_cases a d s with e | ⟨k,k4,e,_⟩
 ·simp (maxSteps:=999999) (disch:=omega) only [go_sem,e]
  simp [readC,readB,readT,c0,e,encR]
 have k0 : ¬(k : Int) < 0:=by omega
 have i0:=(hw.1 d.toNat k).1
 have i8:=(hw.1 d.toNat k).2
 have q9:=(hw.2 (a.ent d.toNat k).ino.toNat p.toNat).2
 simp (maxSteps:=999999) (disch:=omega) only [go_sem,e,k0,hF,hC]
 by_cases c1 : (a.ino (a.ent d.toNat k).ino.toNat).prt p.toNat < 0
 ·simp (maxSteps:=999999) (disch:=omega) only [go_sem,c1]
  simp [readC,readB,readT,readX,c0,e,k0,c1,encR]
 ·simp (maxSteps:=999999) (disch:=omega) only [go_sem,c1,hF,hC]
  simp [readC,readB,readT,readX,c0,e,k0,c1,encR]
theorem Same_ok {d e : Int} {s t : Str} (hF : h.look (.obj f) = some ⟨tFiles,encF c st⟩) (hC : h.look (.obj c) = some ⟨tCache,encC a b⟩) :
  Ok tblE cx Fn.soft_Files_Same (St.enter [.ptr (.obj f) [] tFiles,.int .i64 d,.str s,.int .i64 e,.str t] h) fun v h'=>v = .bool (sameB a d s e t) ∧ h' = h:=by
 rw [Ok_eq]
 simp (maxSteps:=999999) (disch:=omega) only [go_sem,hF,hC]
 refine W_callp rfl ⟨rfl,rfl⟩ (by simp only [go_sem]; exact eFind0 (a:=a) (b:=b) (by simp only [go_sem,hC])) ?_
 simp (maxSteps:=999999) (disch:=omega) only [go_sem,hF,hC]
 refine W_callp rfl ⟨rfl,rfl⟩ (by simp only [go_sem]; exact eFind0 (a:=a) (b:=b) (by simp only [go_sem,hC])) ?_
 simp (maxSteps:=999999) (disch:=omega) only [go_sem,hF,hC]
 rcases slotOf_cases a d s with e1 | ⟨k,k4,e1,d0,d3,_⟩
 ·simp (maxSteps:=999999) (disch:=omega) only [go_sem,e1]
  simp [sameB,e1]
 rcases slotOf_cases a e t with e2 | ⟨j,j4,e2,e0,e3,_⟩
 ·simp (maxSteps:=999999) (disch:=omega) only [go_sem,e1,e2]
  simp [sameB,e1,e2]
 simp (maxSteps:=999999) (disch:=omega) only [go_sem,e1,e2,hF,hC]
 simp [sameB,e1,e2]
theorem Sure_ok {d : Int} {s : Str} (hF : h.look (.obj f) = some ⟨tFiles,encF c st⟩) (hC : h.look (.obj c) = some ⟨tCache,encC a b⟩) :
  Ok tblE cx Fn.soft_Files_Sure (St.enter [.ptr (.obj f) [] tFiles,.int .i64 d,.str s] h) fun v h'=>v = .bool (sureB a b d s) ∧ h' = h:=by
 rw [Ok_eq]
 simp (maxSteps:=999999) (disch:=omega) only [go_sem,hF,hC]
 refine W_callp rfl ⟨rfl,rfl⟩ (by simp only [go_sem]; exact eFind0 (a:=a) (b:=b) (by simp only [go_sem,hC])) ?_
 simp (maxSteps:=999999) (disch:=omega) only [go_sem,hF,hC]
 refine W_callp rfl ⟨rfl,rfl⟩ (by simp only [go_sem]; exact eDisk (a:=a) (b:=b) (by simp only [go_sem,hC])) ?_
 simp (maxSteps:=999999) (disch:=omega) only [go_sem,hF,hC]
 rcases slotOf_cases a d s with e1 | ⟨k,k4,e1,d0,d3,_⟩
 ·simp (maxSteps:=999999) (disch:=omega) only [go_sem,e1]
  simp [sureB,e1]
 simp (maxSteps:=999999) (disch:=omega) only [go_sem,e1,hF,hC]
 simp [sureB,e1]
end
structure Bd where
 now : Img
 disk : Img
 stamp : Int
 crashes : Int
 files : Int
 counts : Int
 datas : Int
def tailB (s c f n d : Int) : AV:=.cons (.int .i64 s) (.cons (.int .i64 c) (.cons (.int .i64 f) (.cons (.int .i64 n) (.cons (.int .i64 d) .unit))))
def Bd.enc (B : Bd) : AV:=.cons B.now.enc (.cons B.disk.enc (tailB B.stamp B.crashes B.files B.counts B.datas))
@[go_sem] theorem at_B0 (B : Bd) (p : List Nat) : B.enc.at (0 :: p) = B.now.enc.at p:=rfl
@[go_sem] theorem at_B1 (B : Bd) (p : List Nat) : B.enc.at (1 :: p) = B.disk.enc.at p:=rfl
@[go_sem] theorem at_B2 (B : Bd) : B.enc.at [2] = some (.int .i64 B.stamp):=rfl
@[go_sem] theorem at_B3 (B : Bd) : B.enc.at [3] = some (.int .i64 B.crashes):=rfl
@[go_sem] theorem at_B4 (B : Bd) : B.enc.at [4] = some (.int .i64 B.files):=rfl
@[go_sem] theorem at_B5 (B : Bd) : B.enc.at [5] = some (.int .i64 B.counts):=rfl
@[go_sem] theorem at_B6 (B : Bd) : B.enc.at [6] = some (.int .i64 B.datas):=rfl
@[go_sem] theorem put_B0 (B : Bd) (p : List Nat) (x : AV) : B.enc.put (0 :: p) x = (B.now.enc.put p x).map fun y=>.cons y (.cons B.disk.enc (tailB B.stamp B.crashes B.files B.counts B.datas)):=rfl
@[go_sem] theorem put_B1 (B : Bd) (p : List Nat) (x : AV) : B.enc.put (1 :: p) x = (B.disk.enc.put p x).map fun y=>.cons B.now.enc (.cons y (tailB B.stamp B.crashes B.files B.counts B.datas)):=by
 show ((B.disk.enc.put p x).map fun y=>AV.cons y (tailB B.stamp B.crashes B.files B.counts B.datas)).map (fun y=>AV.cons B.now.enc y) = _
 cases B.disk.enc.put p x <;> rfl
@[go_sem] theorem put_B2 (B : Bd) (x : Int) : B.enc.put [2] (.int .i64 x) = some (Bd.enc { B with stamp:=x }):=rfl
@[go_sem] theorem put_B3 (B : Bd) (x : Int) : B.enc.put [3] (.int .i64 x) = some (Bd.enc { B with crashes:=x }):=rfl
@[go_sem] theorem put_B4 (B : Bd) (x : Int) : B.enc.put [4] (.int .i64 x) = some (Bd.enc { B with files:=x }):=rfl
@[go_sem] theorem put_B5 (B : Bd) (x : Int) : B.enc.put [5] (.int .i64 x) = some (Bd.enc { B with counts:=x }):=rfl
@[go_sem] theorem put_B6 (B : Bd) (x : Int) : B.enc.put [6] (.int .i64 x) = some (Bd.enc { B with datas:=x }):=rfl
@[go_sem] theorem Bmk (a b : Img) (s c f n d : Int) : AV.cons a.enc (.cons b.enc (tailB s c f n d)) = Bd.enc ⟨a,b,s,c,f,n,d⟩:=rfl
@[go_sem] theorem field_B0 : tBed.field 0 = some tImage:=rfl
@[go_sem] theorem field_B1 : tBed.field 1 = some tImage:=rfl
@[go_sem] theorem field_B2 : tBed.field 2 = some tI:=rfl
@[go_sem] theorem field_B3 : tBed.field 3 = some tI:=rfl
@[go_sem] theorem field_B4 : tBed.field 4 = some tI:=rfl
@[go_sem] theorem field_B5 : tBed.field 5 = some tI:=rfl
@[go_sem] theorem field_B6 : tBed.field 6 = some tI:=rfl
theorem fits_B' (B : Bd) : tBed.fits B.enc = true:=by
 show (Ty.cons tImage (.cons tImage _)).fits (AV.cons _ (.cons _ _)) = true
 simp only [fits_cons,fits_img',true_and]
 rfl
@[go_sem] theorem fits_B (B : Bd) : (tBed.fits B.enc = true) = True:=eq_true (fits_B' B)
@[go_sem] theorem fg_B (B : Bd) (i : Id) : fg B.enc i = B.enc:=rfl
@[go_sem] theorem leads_B (B : Bd) (i : Id) : B.enc.leads i = false:=rfl
theorem zero_bed : tBed.zero = Bd.enc ⟨.zero,.zero,0,0,0,0,0⟩:=by
 show AV.cons tImage.zero (.cons tImage.zero _) = _
 rw [zero_img]; rfl
@[go_sem] theorem fill_B (a b : Img) : fill tBed tBed.zero [(0,a.enc),(1,b.enc)] = some (Bd.enc ⟨a,b,0,0,0,0,0⟩):=by
 rw [zero_bed]
 simp only [fill]
 show (if tImage.fits a.enc = true then _ else _) = _
 rw [if_pos (fits_img' a),put_B0,put_nil,Option.map_some,Bmk]
 show (if tImage.fits b.enc = true then _ else _) = _
 rw [if_pos (fits_img' b),put_B1,put_nil,Option.map_some,Bmk]
def Bd.fl (B : Bd) : Fl:=⟨B.now,B.disk,B.stamp⟩
section
variable {T : Nat → Option MFun} {cx : Cx} {k : List Item} {kill : List Nat} {r : List MOp} {sl : Slots} {own : Own} {h : HP} {Q : St → Prop}
def WBX (T : Nat → Option MFun) (cx : Cx) (t : Ty) (v : AV) (d : Nat) (r : List MOp) (kill : List Nat) (k : List Item) (sl : Slots) (own : Own) (h : HP) (Q : St → Prop) : Prop :=
 t.fits v = true ∧ W T cx (.ops r kill :: k) ⟨sl.set d (.ptr (.obj h.next) [] t),own,h.nw t v⟩ Q
@[go_sem] theorem WBX_bed {B : Bd} {d : Nat} : WBX T cx tBed B.enc d r kill k sl own h Q = W T cx (.ops r kill :: k) ⟨sl.set d (.ptr (.obj h.next) [] tBed),own,h.nw tBed B.enc⟩ Q:=by
 simp only [WBX,fits_B,true_and]
@[go_sem] theorem WBX_files {c : Nat} {n : Int} {d : Nat} : WBX T cx tFiles (encF c n) d r kill k sl own h Q = W T cx (.ops r kill :: k) ⟨sl.set d (.ptr (.obj h.next) [] tFiles),own,h.nw tFiles (encF c n)⟩ Q:=by
 simp only [WBX,fits_F,true_and]
theorem W_boxX {d : Nat} {t : Ty} {x : Opd} : W T cx (.ops (⟨some d,.box true t x,none⟩ :: r) kill :: k) ⟨sl,own,h⟩ Q = WBX T cx t (St.opd ⟨sl,own,h⟩ x) d r kill k sl own h Q:=by
 rw [W_op rfl,evOp]
 simp only [evK,WBX]
 by_cases h1 : t.fits (St.opd ⟨sl,own,h⟩ x) = true
 ·simp only [h1,true_and,if_true]; rfl
 ·simp only [h1,false_and,Bool.false_eq_true,if_false]; rfl
@[go_sem] theorem W_boxBed {d : Nat} {x : Opd} : W T cx (.ops (⟨some d,.box true tBed x,none⟩ :: r) kill :: k) ⟨sl,own,h⟩ Q = WBX T cx tBed (St.opd ⟨sl,own,h⟩ x) d r kill k sl own h Q:=W_boxX
@[go_sem] theorem W_boxFiles {d : Nat} {x : Opd} : W T cx (.ops (⟨some d,.box true tFiles x,none⟩ :: r) kill :: k) ⟨sl,own,h⟩ Q = WBX T cx tFiles (St.opd ⟨sl,own,h⟩ x) d r kill k sl own h Q:=W_boxX
@[go_sem] theorem mk1_nw (a b : Img) : h.mk1 a b = h.nw tCache (encC a b):=rfl
end
structure Fr (h h' : HP) (S : List Nat) : Prop where
 stk : h'.stk = h.stk
 arg : h'.arg = h.arg
 next : h.next ≤ h'.next
 same : ∀ n,n < h.next → n ∉ S → h'.obj n = h.obj n
theorem Fr.refl (h : HP) (S : List Nat) : Fr h h S:=⟨rfl,rfl,Nat.le_refl _,fun _ _ _=>rfl⟩
theorem Fr.trans {h h1 h2 : HP} {S : List Nat} (a : Fr h h1 S) (b : Fr h1 h2 S) : Fr h h2 S :=
 ⟨b.stk.trans a.stk,b.arg.trans a.arg,Nat.le_trans a.next b.next,fun n hn hs=>(b.same n (by have:=a.next; omega) hs).trans (a.same n hn hs)⟩
theorem Fr.ob {h : HP} {n : Nat} {t : Ty} {v : AV} {S : List Nat} (hn : n ∈ S) : Fr h (h.ob n t v) S :=
 ⟨rfl,rfl,Nat.le_refl _,fun k _ hs=>obj_ob_ne fun e=>hs (e ▸ hn)⟩
theorem Fr.nw {h : HP} {t : Ty} {v : AV} {S : List Nat} : Fr h (h.nw t v) S :=
 ⟨rfl,rfl,Nat.le_succ _,fun k hk _=>by simp [HP.nw,HP.ob,HP.set]; omega⟩
theorem Fr.mono {h h' : HP} {S S' : List Nat} (a : Fr h h' S) (hs : ∀ n ∈ S,n < h.next → n ∈ S') : Fr h h' S' :=
 ⟨a.stk,a.arg,a.next,fun n hn hn'=>a.same n hn fun e=>hn' (hs n e hn)⟩
theorem Fr.look {h h' : HP} {S : List Nat} (a : Fr h h' S) {n : Nat} {b : Option Blk} (hn : n < h.next) (hs : n ∉ S) (e : h.look (.obj n) = b) : h'.look (.obj n) = b:=by
 rw [← e]; exact a.same n hn hs
theorem look_nn1 {h : HP} {t u : Ty} {v w : AV} : ((h.nw t v).nw u w).look (.obj (h.next + 1)) = some ⟨u,w⟩:=look_nw (h:=h.nw t v)
theorem look_nn0 {h : HP} {t u : Ty} {v w : AV} : ((h.nw t v).nw u w).look (.obj h.next) = some ⟨t,v⟩:=by
 rw [look_nw_ne (by show ¬h.next = h.next + 1; omega),look_nw]
theorem ob_nn1 {h : HP} {t u u' : Ty} {v w w' : AV} : ((h.nw t v).nw u w).ob (h.next + 1) u' w' = (h.nw t v).nw u' w':=nw_ob (h:=h.nw t v)
section
variable {T : Nat → Option MFun} {cx : Cx} {k : List Item} {kill : List Nat} {r : List MOp} {sl : Slots} {own : Own} {h : HP} {Q : St → Prop}
theorem W_callF {S : List Nat} {R : AV → HP → Prop} {prot : Bool} {f : Nat} {args : List Opd} {d : Option Nat} {fn : MFun} (hf : T f = some fn) (hp : fn.params = args.length ∧ fn.nfree = 0)
  (hc : Ok T (St.callCx ⟨sl,own,h⟩ cx prot) fn (St.enter (args.map (St.opd ⟨sl,own,h⟩)) (h.push cx.lvl own)) fun v' h'=>Fr (h.push cx.lvl own) h' S ∧ R v' h')
  (hR : ∀ v h1,R v (HP.push h1 cx.lvl own) → R v h1)
  (hq : ∀ v h1,Fr h h1 S → R v h1 → W T cx (.ops r kill :: k) (St.setd ⟨sl,own,h1⟩ d v) Q) :
  W T cx (.ops (⟨d,.call prot [] f args,none⟩ :: r) kill :: k) ⟨sl,own,h⟩ Q:=by
 refine W_callR (R:=fun v h1=>Fr h h1 S ∧ R v h1) hf hp (hc.mono fun v h' e=>?_) fun v h1 e=>hq v h1 e.1 e.2
 obtain ⟨e1,e2⟩:=e
 have hh : h' = HP.push ⟨h.stk,h'.obj,h'.next,h'.arg⟩ cx.lvl own:=by
  have:=e1.stk
  cases h'
  simp only at this
  subst this
  rfl
 refine ⟨⟨h.stk,h'.obj,h'.next,h'.arg⟩,hh,rfl,⟨rfl,e1.arg,e1.next,e1.same⟩,hR _ _ (hh ▸ e2)⟩
end
def maxSt (m : Img) : Nat → Int
 | 0=>0
 | k + 1=>if maxSt m k < (m.ino k).stamp then (m.ino k).stamp else maxSt m k
@[go_sem] theorem maxV_int (k : IntKind) (a b : Int) : maxV (.int k a) (.int k b) = some (.int k (if a < b then b else a)):=by simp [maxV]
@[go_sem] theorem fits_tInodes (v : Vector Ino 8) : (tInodes.fits (encV Ino.enc v) = true) = True:=fits_inodes v
section
variable {cx : Cx} {h : HP} {m : Img}
theorem SNew_ok : Ok tblE cx Fn.soft_New (St.enter [] h) fun v h'=>v = .ptr (.obj (h.next + 1)) [] tFiles ∧ h' = (h.nw tCache (encC .blank .blank)).nw tFiles (encF h.next 0):=by
 rw [Ok_eq]
 simp (maxSteps:=999999) (disch:=omega) only [go_sem]
 refine W_callh (v:=.ptr (.obj h.next) [] tCache) (h.nw tCache (encC .blank .blank)) rfl ⟨rfl,rfl⟩ rfl (by simp only [go_sem]; exact upE CNew_ok) ?_
 simp (maxSteps:=999999) (disch:=omega) only [go_sem]
theorem SOf_ok (hl : ∀ n,h.next ≤ n → cx.prot.lets (.obj n) = true) (hs : m.small) (hc : check m = 0) : Ok tblE cx Fn.soft_Of (St.enter [m.enc] h) fun v h' =>
  v = .ptr (.obj (h.next + 1)) [] tFiles ∧ h' = (h.nw tCache (encC m m)).nw tFiles (encF h.next (maxSt m 8)):=by
 rw [Ok_eq]
 simp (maxSteps:=999999) (disch:=omega) only [go_sem]
 refine W_callh (v:=.ptr (.obj h.next) [] tCache) (h.nw tCache (encC m m)) rfl ⟨rfl,rfl⟩ rfl (by simp only [go_sem]; exact upE (COf_ok hs hc)) ?_
 simp (maxSteps:=999999) (disch:=omega) only [go_sem]
 refine W_for 8 (fun k=>⟨[(4,.ptr (.obj (h.next + 1)) [] tFiles),(15,encV Ino.enc m.inode),(16,.int .i64 k)],[],(h.nw tCache (encC m m)).nw tFiles (encF h.next (maxSt m k))⟩) (by simp only [go_sem] <;> rfl) fun k hk ih=>?_
 by_cases hlt : k < 8
 ·simp (maxSteps:=999999) (disch:=omega) only [go_sem,hlt,look_nn1,stV_ob (hl (h.next + 1) (by omega)),ob_nn1]
  refine ih _ hlt ?_
  simp only [go_sem,maxSt]
 ·obtain rfl : k = 8:=by omega
  simp (maxSteps:=999999) (disch:=omega) only [go_sem]
end
def syncK (a b : Img) : Nat:=if findN 8 (fun k=>decide (a = syncD a b k)) < 0 then 8 else (findN 8 (fun k=>decide (a = syncD a b k))).toNat
def syncTo (a b : Img) : Img:=syncD a b (syncK a b)
theorem syncK_eq {a b : Img} {k : Nat} (h8 : k ≤ 8) (h : k = 8 ∨ a = syncD a b k) (hn : ∀ i,i < k → ¬a = syncD a b i) : k = syncK a b:=by
 unfold syncK
 rcases h with rfl | h
 ·rw [findN_none fun i hi=>by simp [hn i hi]]; rfl
 ·by_cases e : k = 8
  ·subst e; rw [findN_none fun i hi=>by simp [hn i hi]]; rfl
  ·rw [findN_at (j:=k) (fun i hi=>by simp [hn i hi]) (by simpa using h) (by omega),if_neg (by omega)]; simp
structure Lf where
 fl : Fl
 a : Int
 b : Int
 c : Int
 n : Int
def Lf.new : Lf:=⟨⟨.blank,.blank,0⟩,0,0,0,0⟩
def lifeC (L : Lf) (x : SStep) : Int :=
 if x.kind = 7 then (if (writeAs L.fl.now L.fl.disk x.p).2 = true then 0 else 1) else
 if x.kind = 8 then 0 else if x.kind = 9 then check L.fl.disk else doC L.fl x
def crashF (L : Lf) : Lf:=if check L.fl.disk = 0 then
  ⟨⟨mended L.fl.disk,mended L.fl.disk,maxSt (mended L.fl.disk) 8⟩,lostF L.fl.disk 8,lostC L.fl.disk 8,lostD (mendI L.fl.disk 8) 9,IntKind.i64.wrap (L.n + 1)⟩ else L
def lifeF (L : Lf) (x : SStep) : Lf :=
 if x.kind = 7 then { L with fl:={ L.fl with disk:=(writeAs L.fl.now L.fl.disk x.p).1 } } else
 if x.kind = 8 then { L with fl:={ L.fl with disk:=syncTo L.fl.now L.fl.disk } } else
 if x.kind = 9 then crashF L else { L with fl:=doF L.fl x }
theorem small_setEnt {m : Img} (h : m.small) {d s : Nat} {y : Ent} (hy : y.name.size ≤ 100000) : (m.setEnt d s y).small:=fun d' s'=>by
 rw [ent_setEnt]; split
 ·exact hy
 ·exact h d' s'
theorem small_setIno {m : Img} (h : m.small) {n : Nat} {y : Ino} : (m.setIno n y).small:=h
theorem small_setDat {m : Img} (h : m.small) {n : Nat} {y : Dat} : (m.setDat n y).small:=h
theorem isName_size {s : Str} (h : isName s = true) : s.size ≤ 100000:=by
 simp [isName] at h; omega
theorem small_addName {a : Img} (h : a.small) {d s n : Nat} {name : Str} (hn : name.size ≤ 100000) : (addName a d s name n).small:=small_setIno (small_setEnt h hn)
theorem small_dropName {a : Img} (h : a.small) {d s : Nat} : (dropName a d s).small:=by
 unfold dropName
 dsimp only
 split <;> exact small_setIno (small_setEnt h (by decide))
theorem small_enterA {a b : Img} (h : a.small) {d : Int} {s : Str} {n : Nat} (hn : s.size ≤ 100000) : (enterA a b d s n).small:=by
 unfold enterA
 split
 ·exact small_addName h hn
 ·exact h
theorem small_doF {F : Fl} (h : F.now.small) {x : SStep} : (doF F x).now.small:=by
 unfold doF
 split
 ·exact h
 rename_i hc
 have c0 : stepFault x = 0:=by
  by_cases e : stepFault x = 0
  ·exact e
  ·exfalso; apply hc; simp only [doC]; rw [if_pos e]; exact e
 obtain ⟨⟨k1,k6⟩,_,hn,hto,_⟩:=stepFault_zero c0
 split
 ·unfold makeF
  split
  ·exact small_addName (small_setIno h) (isName_size hn)
  ·exact h
 dsimp only
 split
 ·rename_i k2; exact small_enterA h (isName_size (hto (.inl k2)).2)
 split
 ·rename_i k4; exact small_dropName (small_enterA h (isName_size (hto (.inr k4)).2))
 split
 ·exact small_dropName h
 split
 ·unfold putA
  split
  ·split
   ·exact h
   ·exact small_setDat (small_setIno h)
  ·exact small_setDat h
 ·exact small_setIno h
theorem small_wrDir {a b : Img} (ha : a.small) (hb : b.small) (d : Nat) : ∀ k,(wrDir a b d k).small
 | 0=>hb
 | k + 1=>by
  have ih:=small_wrDir ha hb d k
  refine small_setEnt ih ?_
  rcases entryAs_cases a (wrDir a b d k) d k with e | ⟨_,e,_⟩ | ⟨_,e,_⟩ <;> rw [e]
  ·exact ih d k
  ·exact ha d k
  ·decide
theorem small_writeAs {a b : Img} (ha : a.small) (hb : b.small) (x : Int) : (writeAs a b x).1.small:=by
 obtain ⟨n,hn,e⟩ | ⟨n,hn,e⟩ | ⟨n,hn,e⟩ | e:=blockOf_cases x
 ·rw [writeAs_i e]; intro d s; show ((wrInodes a b n 4).ent d s).name.size ≤ _; rw [wrInodes_ent]; exact hb d s
 ·rw [writeAs_d e]; exact small_wrDir ha hb n 4
 ·rw [writeAs_a e]; exact hb
 ·rw [writeAs_n e]; exact hb
theorem small_wrDown {a b : Img} (ha : a.small) (hb : b.small) : ∀ k,(wrDown a b k).small
 | 0=>hb
 | k + 1=>small_writeAs ha (small_wrDown ha hb k) _
theorem small_syncD {a b : Img} (ha : a.small) (hb : b.small) : ∀ k,(syncD a b k).small
 | 0=>hb
 | k + 1=>small_wrDown ha (small_syncD ha hb k) 14
theorem WF_check {m : Img} (hc : check m = 0) : WF m:=by
 refine ⟨fun d s=>?_,fun n p=>?_⟩
 ·by_cases h : d < 3 ∧ s < 4
  ·rcases entry_parts ((check_parts hc).1 d h.1 s h.2) with e | ⟨_,_,_,a4,a5,_⟩
   ·rw [e]; exact ⟨by decide,by decide⟩
   ·exact ⟨a4,a5⟩
  ·have : m.ent d s = Ent.zero:=by simp only [Img.ent]; rw [dif_neg h]
   rw [this]; exact ⟨by decide,by decide⟩
 ·by_cases hn : n < 8
  ·by_cases hp : p < 2
   ·cases hl : (m.ino n).live with
    | true =>
     have:=part_dat ((ino_parts hc hn hl).2.2 p hp)
     omega
    | false=>rw [dead_none hc hn hl]; exact prt_none p
   ·simp [Ino.prt,hp]
  ·have : m.ino n = Ino.zero:=by simp only [Img.ino]; rw [dif_neg hn]
   rw [this]
   by_cases hp : p < 2
   ·simp [Ino.prt,Ino.zero,hp]
   ·simp [Ino.prt,hp]
structure Inv0 (F : Fl) : Prop where
 wf : WF F.now
 sn : F.now.small
 sd : F.disk.small
theorem doF_disk (F : Fl) (x : SStep) : (doF F x).disk = F.disk:=by
 unfold doF makeF
 split
 ·rfl
 split
 ·split <;> rfl
 dsimp only
 split
 ·rfl
 split
 ·rfl
 split
 ·rfl
 split <;> rfl
theorem Inv0.doF {F : Fl} (h : Inv0 F) (x : SStep) : Inv0 (doF F x):=⟨WF_doF h.wf x,small_doF h.sn,by rw [doF_disk]; exact h.sd⟩
theorem Inv0.lifeF {L : Lf} (h : Inv0 L.fl) (x : SStep) : Inv0 (lifeF L x).fl:=by
 unfold Go.Mini.lifeF
 split
 ·exact ⟨h.wf,h.sn,small_writeAs h.sn h.sd _⟩
 split
 ·exact ⟨h.wf,h.sn,small_syncD h.sn h.sd _⟩
 split
 ·unfold crashF
  split
  ·rename_i hc
   exact ⟨WF_check (mended_check hc),mended_small h.sd,mended_small h.sd⟩
  ·exact h
 ·exact h.doF x
def encLi (f : Nat) (a b c n : Int) : AV:=.cons (.ptr (.obj f) [] tFiles) (.cons (encLost a b c) (.cons (.int .i64 n) .unit))
@[go_sem] theorem at_Li0 (f : Nat) (a b c n : Int) : (encLi f a b c n).at [0] = some (.ptr (.obj f) [] tFiles):=rfl
@[go_sem] theorem at_Li1 (f : Nat) (a b c n : Int) : (encLi f a b c n).at [1] = some (encLost a b c):=rfl
@[go_sem] theorem at_Li2 (f : Nat) (a b c n : Int) : (encLi f a b c n).at [2] = some (.int .i64 n):=rfl
@[go_sem] theorem put_Li0 (f g : Nat) (a b c n : Int) : (encLi f a b c n).put [0] (.ptr (.obj g) [] tFiles) = some (encLi g a b c n):=rfl
@[go_sem] theorem put_Li1 (f : Nat) (a b c n a' b' c' : Int) : (encLi f a b c n).put [1] (encLost a' b' c') = some (encLi f a' b' c' n):=rfl
@[go_sem] theorem put_Li2 (f : Nat) (a b c n n' : Int) : (encLi f a b c n).put [2] (.int .i64 n') = some (encLi f a b c n'):=rfl
@[go_sem] theorem field_Li0 : tLife.field 0 = some tP:=rfl
@[go_sem] theorem field_Li1 : tLife.field 1 = some tLost:=rfl
@[go_sem] theorem field_Li2 : tLife.field 2 = some tI:=rfl
@[go_sem] theorem fill_Li (f : Nat) : fill tLife tLife.zero [(0,.ptr (.obj f) [] tFiles)] = some (encLi f 0 0 0 0):=rfl
@[go_sem] theorem fits_Li (f : Nat) (a b c n : Int) : (tLife.fits (encLi f a b c n) = true) = True:=eq_true rfl
section
variable {T : Nat → Option MFun} {cx : Cx} {k : List Item} {kill : List Nat} {r : List MOp} {sl : Slots} {own : Own} {h : HP} {Q : St → Prop}
@[go_sem] theorem WBX_life {f : Nat} {a b c n : Int} {d : Nat} : WBX T cx tLife (encLi f a b c n) d r kill k sl own h Q = W T cx (.ops r kill :: k) ⟨sl.set d (.ptr (.obj h.next) [] tLife),own,h.nw tLife (encLi f a b c n)⟩ Q:=by
 simp only [WBX,fits_Li,true_and]
@[go_sem] theorem W_boxLife {d : Nat} {x : Opd} : W T cx (.ops (⟨some d,.box true tLife x,none⟩ :: r) kill :: k) ⟨sl,own,h⟩ Q = WBX T cx tLife (St.opd ⟨sl,own,h⟩ x) d r kill k sl own h Q:=W_boxX
end
structure LifeAt (h : HP) (p f c : Nat) (L : Lf) : Prop where
 li : h.look (.obj p) = some ⟨tLife,encLi f L.a L.b L.c L.n⟩
 fi : h.look (.obj f) = some ⟨tFiles,encF c L.fl.stamp⟩
 ca : h.look (.obj c) = some ⟨tCache,encC L.fl.now L.fl.disk⟩
 pf : ¬p = f
 fc : ¬f = c
 pc : ¬p = c
 pn : p < h.next
 fn : f < h.next
 cn : c < h.next
section
variable {cx : Cx} {h : HP} {p f c : Nat} {L : Lf} {a b : Img}
theorem LNew_ok : Ok tblE cx Fn.life_New (St.enter [] h) fun v h'=>v = .ptr (.obj (h.next + 2)) [] tLife ∧ h' = ((h.nw tCache (encC .blank .blank)).nw tFiles (encF h.next 0)).nw tLife (encLi (h.next + 1) 0 0 0 0):=by
 rw [Ok_eq]
 simp (maxSteps:=999999) (disch:=omega) only [go_sem]
 refine W_callh (v:=.ptr (.obj (h.next + 1)) [] tFiles) ((h.nw tCache (encC .blank .blank)).nw tFiles (encF h.next 0)) rfl ⟨rfl,rfl⟩ rfl (by simp only [go_sem]; exact SNew_ok) ?_
 simp (maxSteps:=999999) (disch:=omega) only [go_sem]
theorem eSync (hl : ∀ n,cx.prot.lets (.obj n) = true) (hC : h.look (.obj c) = some ⟨tCache,encC a b⟩) : Ok tblE cx Fn.cache_Cache_Sync (St.enter [.ptr (.obj c) [] tCache] h) fun v h'=>v = .int .i64 (syncK a b) ∧ h' = h.ob c tCache (encC a (syncTo a b)):=by
 have:=upE (CSync_ok (h:=h) (n:=c) (a:=a) (b:=b) (hl c))
 rw [cs_ob,ob_self hC] at this
 refine this.mono fun v h' e=>?_
 obtain ⟨k,h8,rfl,rfl,hk,hn⟩:=e
 obtain rfl:=syncK_eq h8 hk hn
 exact ⟨rfl,rfl⟩
theorem eWrite {x : Int} (hl : ∀ n,cx.prot.lets (.obj n) = true) (hC : h.look (.obj c) = some ⟨tCache,encC a b⟩) : Ok tblE cx Fn.cache_Cache_Write (St.enter [.ptr (.obj c) [] tCache,.int .i64 x] h) fun v h'=>v = .bool (writeAs a b x).2 ∧ h' = h.ob c tCache (encC a (writeAs a b x).1) :=
 upE (CWrite_ok hC (hl c))
theorem Crashes_ok (hA : LifeAt h p f c L) : Ok tblE cx Fn.life_Life_Crashes (St.enter [.ptr (.obj p) [] tLife] h) fun v h'=>v = .int .i64 L.n ∧ h' = h:=by
 rw [Ok_eq]
 simp (maxSteps:=999999) (disch:=omega) only [go_sem,hA.li]
theorem Lost_ok (hA : LifeAt h p f c L) : Ok tblE cx Fn.life_Life_Lost (St.enter [.ptr (.obj p) [] tLife] h) fun v h'=>v = encLost L.a L.b L.c ∧ h' = h:=by
 rw [Ok_eq]
 simp (maxSteps:=999999) (disch:=omega) only [go_sem,hA.li]
end
theorem look_nn_lt {h : HP} {p : Nat} {t u : Ty} {v w : AV} (e : p < h.next) : ((h.nw t v).nw u w).look (.obj p) = h.look (.obj p):=by
 rw [look_nw_ne (by show ¬p = h.next + 1; omega),look_nw_lt e]
theorem mendV_of {m : Img} (hc : check m = 0) : mendV m = mended m:=by simp [mendV,hc]
theorem mendA_of {m : Img} (hc : check m = 0) : mendA m = lostF m 8:=by simp [mendA,hc]
theorem mendB_of {m : Img} (hc : check m = 0) : mendB m = lostC m 8:=by simp [mendB,hc]
theorem mendC_of {m : Img} (hc : check m = 0) : mendC m = lostD (mendI m 8) 9:=by simp [mendC,hc]
def LifeTo (h h' : HP) (p f c : Nat) (L : Lf) : Prop:=∃ f' c',LifeAt h' p f' c' L ∧ ((f' = f ∧ c' = c) ∨ (h.next ≤ f' ∧ h.next ≤ c'))
theorem LifeAt.pop {h : HP} {p f c l : Nat} {o : Own} {L : Lf} (a : LifeAt (h.push l o) p f c L) : LifeAt h p f c L:=⟨a.li,a.fi,a.ca,a.pf,a.fc,a.pc,a.pn,a.fn,a.cn⟩
theorem LifeAt.push {h : HP} {p f c l : Nat} {o : Own} {L : Lf} (a : LifeAt h p f c L) : LifeAt (h.push l o) p f c L:=⟨a.li,a.fi,a.ca,a.pf,a.fc,a.pc,a.pn,a.fn,a.cn⟩
theorem LifeTo.pop {h h1 : HP} {p f c l l' : Nat} {o o' : Own} {L : Lf} (a : LifeTo (h.push l' o') (h1.push l o) p f c L) : LifeTo h h1 p f c L:=by
 obtain ⟨f',c',a,b⟩:=a
 exact ⟨f',c',a.pop,b⟩
theorem LifeTo.push {h h1 : HP} {p f c l : Nat} {o : Own} {L : Lf} (a : LifeTo h h1 p f c L) : LifeTo (h.push l o) h1 p f c L:=a
section
variable {cx : Cx} {h : HP} {p f c : Nat} {L : Lf}
theorem LifeAt.setFl (hA : LifeAt h p f c L) (F : Fl) : LifeAt ((h.ob f tFiles (encF c F.stamp)).ob c tCache (encC F.now F.disk)) p f c { L with fl:=F }:=by
 have h1:=hA.pf
 have h2:=hA.fc
 have h3:=hA.pc
 refine ⟨?_,?_,look_ob,h1,h2,h3,hA.pn,hA.fn,hA.cn⟩
 ·rw [look_ob_ne h3,look_ob_ne h1]; exact hA.li
 ·rw [look_ob_ne h2]; exact look_ob
theorem Fr_setFl {v w : AV} : Fr h ((h.ob f tFiles v).ob c tCache w) [p,f,c]:=(Fr.ob (by simp)).trans (Fr.ob (by simp))
theorem LifeAt.setCa (hA : LifeAt h p f c L) (b : Img) : LifeAt (h.ob c tCache (encC L.fl.now b)) p f c { L with fl:={ L.fl with disk:=b } }:=by
 have:=hA.setFl { L.fl with disk:=b }
 rw [ob_self (v:=encF c L.fl.stamp) hA.fi] at this
 exact this
theorem crash_ok (hl : ∀ n,cx.prot.lets (.obj n) = true) (hA : LifeAt h p f c L) (hs : L.fl.disk.small) :
  Ok tblE cx Fn.life_Life_crash (St.enter [.ptr (.obj p) [] tLife] h) fun v h'=>Fr h h' [p,f,c] ∧ v = .int .i64 (check L.fl.disk) ∧ LifeTo h h' p f c (crashF L):=by
 obtain ⟨li,fi,ca,pf,fc,pc,pn,fn,cn⟩:=hA
 rw [Ok_eq]
 simp (maxSteps:=999999) (disch:=omega) only [go_sem,li,fi,ca]
 refine W_callp rfl ⟨rfl,rfl⟩ (by simp only [go_sem]; exact eDisk (a:=L.fl.now) (b:=L.fl.disk) (by simp only [go_sem,ca])) ?_
 simp (maxSteps:=999999) (disch:=omega) only [go_sem]
 refine W_callp rfl ⟨rfl,rfl⟩ (by simp only [go_sem]; exact upE (up (Mend_ok hs))) ?_
 simp (maxSteps:=999999) (disch:=omega) only [go_sem]
 by_cases e : check L.fl.disk = 0
 rotate_left
 ·simp (maxSteps:=999999) (disch:=omega) only [go_sem,e]
  refine ⟨Fr.refl _ _,f,c,?_,.inl ⟨rfl,rfl⟩⟩
  have : crashF L = L:=by simp [crashF,e]
  rw [this]
  exact ⟨li,fi,ca,pf,fc,pc,pn,fn,cn⟩
 rw [mendV_of e,mendA_of e,mendB_of e,mendC_of e]
 simp (maxSteps:=999999) (disch:=omega) only [go_sem,e]
 refine W_callh (v:=.ptr (.obj (h.next + 1)) [] tFiles) ((h.nw tCache (encC (mended L.fl.disk) (mended L.fl.disk))).nw tFiles (encF h.next (maxSt (mended L.fl.disk) 8))) rfl ⟨rfl,rfl⟩ rfl (by simp only [go_sem]; exact SOf_ok (fun n hn=>decide_eq_true hn) (mended_small hs) (mended_check e)) ?_
 have d1 : ¬h.next + 1 = p:=by omega
 have d2 : ¬h.next = p:=by omega
 simp (maxSteps:=999999) (disch:=omega) only [go_sem,stV_ob (hl p),look_nn_lt pn,li]
 have hc : crashF L = ⟨⟨mended L.fl.disk,mended L.fl.disk,maxSt (mended L.fl.disk) 8⟩,lostF L.fl.disk 8,lostC L.fl.disk 8,lostD (mendI L.fl.disk 8) 9,IntKind.i64.wrap (L.n + 1)⟩:=by simp [crashF,e]
 refine ⟨(Fr.nw.trans Fr.nw).trans (Fr.ob (by simp)),?_⟩
 rw [hc]
 refine ⟨h.next + 1,h.next,?_,.inr ⟨by omega,Nat.le_refl _⟩⟩
 constructor <;> try dsimp only
 ·exact look_ob
 ·rw [look_ob_ne d1]; exact look_nn1
 ·rw [look_ob_ne d2]; exact look_nn0
 ·omega
 ·omega
 ·omega
 ·show p < h.next + 1 + 1; omega
 ·show h.next + 1 < h.next + 1 + 1; omega
 ·show h.next < h.next + 1 + 1; omega
theorem LStep_ok {x : SStep} (hl : ∀ n,cx.prot.lets (.obj n) = true) (hA : LifeAt h p f c L) (hi : Inv0 L.fl) (h1 : x.name.size ≤ 9223372036854775807) (h2 : x.to.size ≤ 9223372036854775807) (h3 : x.text.size ≤ 9223372036854775807) :
  Ok tblE cx Fn.life_Life_Step (St.enter [.ptr (.obj p) [] tLife,x.enc] h) fun v h'=>Fr h h' [p,f,c] ∧ v = .int .i64 (lifeC L x) ∧ LifeTo h h' p f c (lifeF L x):=by
 obtain ⟨li,fi,ca,pf,fc,pc,pn,fn,cn⟩:=id hA
 rw [Ok_eq]
 simp (maxSteps:=999999) (disch:=omega) only [go_sem]
 by_cases c7 : x.kind = 7
 ·simp (maxSteps:=999999) (disch:=omega) only [go_sem,c7,li,fi,ca]
  refine W_callh (v:=.bool (writeAs L.fl.now L.fl.disk x.p).2) (h.ob c tCache (encC L.fl.now (writeAs L.fl.now L.fl.disk x.p).1)) rfl ⟨rfl,rfl⟩ rfl (by simp only [go_sem]; exact eWrite (by exact hl) (by simp only [go_sem,ca])) ?_
  simp (maxSteps:=999999) (disch:=omega) only [go_sem]
  have fin : LifeTo h (h.ob c tCache (encC L.fl.now (writeAs L.fl.now L.fl.disk x.p).1)) p f c (lifeF L x):=by
   have : lifeF L x = { L with fl:={ L.fl with disk:=(writeAs L.fl.now L.fl.disk x.p).1 } }:=by simp [lifeF,c7]
   rw [this]
   exact ⟨f,c,hA.setCa _,.inl ⟨rfl,rfl⟩⟩
  cases cw : (writeAs L.fl.now L.fl.disk x.p).2 with
  | true =>
   simp (maxSteps:=999999) (disch:=omega) only [go_sem,cw]
   exact ⟨Fr.ob (by simp),by simp [lifeC,c7,cw],fin⟩
  | false =>
   simp (maxSteps:=999999) (disch:=omega) only [go_sem,cw]
   exact ⟨Fr.ob (by simp),by simp [lifeC,c7,cw],fin⟩
 by_cases c8 : x.kind = 8
 ·simp (maxSteps:=999999) (disch:=omega) only [go_sem,c7,c8,li,fi,ca]
  refine W_callh (v:=.int .i64 (syncK L.fl.now L.fl.disk)) (h.ob c tCache (encC L.fl.now (syncTo L.fl.now L.fl.disk))) rfl ⟨rfl,rfl⟩ rfl (by simp only [go_sem]; exact eSync (by exact hl) (by simp only [go_sem,ca])) ?_
  simp (maxSteps:=999999) (disch:=omega) only [go_sem]
  refine ⟨Fr.ob (by simp),by simp [lifeC,c7,c8],?_⟩
  have : lifeF L x = { L with fl:={ L.fl with disk:=syncTo L.fl.now L.fl.disk } }:=by simp [lifeF,c7,c8]
  rw [this]
  exact ⟨f,c,hA.setCa _,.inl ⟨rfl,rfl⟩⟩
 by_cases c9 : x.kind = 9
 ·simp (maxSteps:=999999) (disch:=omega) only [go_sem,c7,c8,c9]
  refine W_callF (S:=[p,f,c]) (R:=fun v h'=>v = .int .i64 (check L.fl.disk) ∧ LifeTo (h.push cx.lvl [(3,{ ty:=tStep,val:=x.enc })]) h' p f c (crashF L)) rfl ⟨rfl,rfl⟩ (by
   simp only [go_sem]
   exact crash_ok (L:=L) (f:=f) (c:=c) (by exact hl) ⟨li,fi,ca,pf,fc,pc,pn,fn,cn⟩ hi.sd) (fun v h1 e=>⟨e.1,e.2.pop.push⟩) ?_
  rintro v h' hF ⟨rfl,hT⟩
  simp (maxSteps:=999999) (disch:=omega) only [go_sem]
  refine ⟨hF,by simp [lifeC,c7,c8,c9],?_⟩
  have : lifeF L x = crashF L:=by simp [lifeF,c7,c8,c9]
  rw [this]; exact hT
 simp (maxSteps:=999999) (disch:=omega) only [go_sem,c7,c8,c9,li,fi,ca]
 refine W_callh (v:=.int .i64 (doC L.fl x)) ((h.ob f tFiles (encF c (doF L.fl x).stamp)).ob c tCache (encC (doF L.fl x).now L.fl.disk)) rfl ⟨rfl,rfl⟩ rfl (by simp only [go_sem]; exact Do_ok (by exact hl) (by simp only [go_sem,fi]) (by simp only [go_sem,ca]) fc hi.wf h1 h2 h3) ?_
 simp (maxSteps:=999999) (disch:=omega) only [go_sem]
 refine ⟨Fr_setFl,by simp [lifeC,c7,c8,c9],?_⟩
 have : lifeF L x = { L with fl:=doF L.fl x }:=by simp [lifeF,c7,c8,c9]
 rw [this]
 refine ⟨f,c,?_,.inl ⟨rfl,rfl⟩⟩
 have:=hA.setFl (doF L.fl x)
 rwa [doF_disk] at this
end
def sLt (a b : Str) : Bool:=Op.bytesLess a.toList b.toList
theorem bLt_irrefl : ∀ l : List UInt8,Op.bytesLess l l = false
 | []=>rfl
 | a :: l=>by simp [Op.bytesLess,bLt_irrefl l]
theorem bLt_asymm : ∀ l m : List UInt8,Op.bytesLess l m = true → Op.bytesLess m l = false
 | _,[],h=>by simp [Op.bytesLess] at h
 | [],b :: m,_=>rfl
 | a :: l,b :: m,h=>by
  simp only [Op.bytesLess,Bool.or_eq_true,Bool.and_eq_true,decide_eq_true_eq,beq_iff_eq] at h
  simp only [Op.bytesLess,Bool.or_eq_false_iff,decide_eq_false_iff_not]
  rcases h with h | ⟨rfl,h⟩
  ·refine ⟨fun e=>absurd (UInt8.lt_trans h e) (UInt8.lt_irrefl _),?_⟩
   have : ¬b = a:=fun e=>by subst e; exact absurd h (UInt8.lt_irrefl _)
   simp [this]
  ·exact ⟨UInt8.lt_irrefl _,by simp [bLt_asymm l m h]⟩
theorem bLt_total : ∀ l m : List UInt8,Op.bytesLess l m = false → Op.bytesLess m l = false → l = m
 | [],[],_,_=>rfl
 | [],_ :: _,h,_=>by simp [Op.bytesLess] at h
 | _ :: _,[],_,h=>by simp [Op.bytesLess] at h
 | a :: l,b :: m,h,k=>by
  simp only [Op.bytesLess,Bool.or_eq_false_iff,decide_eq_false_iff_not] at h k
  have e : a = b:=by
   have h1:=h.1; have k1:=k.1
   rw [UInt8.lt_iff_toNat_lt] at h1 k1
   exact UInt8.toNat_inj.1 (by omega)
  subst e
  simp at h k
  rw [bLt_total l m h k]
theorem bLt_trans : ∀ l m n : List UInt8,Op.bytesLess l m = true → Op.bytesLess m n = true → Op.bytesLess l n = true
 | _,[],_,h,_=>by simp [Op.bytesLess] at h
 | _,_ :: _,[],_,h=>by simp [Op.bytesLess] at h
 | [],_ :: _,_ :: _,_,_=>rfl
 | a :: l,b :: m,c :: n,h,k=>by
  simp only [Op.bytesLess,Bool.or_eq_true,Bool.and_eq_true,decide_eq_true_eq,beq_iff_eq] at h k ⊢
  rcases h with h | ⟨rfl,h⟩
  ·rcases k with k | ⟨rfl,k⟩
   ·exact .inl (UInt8.lt_trans h k)
   ·exact .inl h
  ·rcases k with k | ⟨rfl,k⟩
   ·exact .inl k
   ·exact .inr ⟨rfl,bLt_trans l m n h k⟩
theorem str_toList {a b : Str} : a.toList = b.toList ↔ a = b:=by
 constructor
 ·intro h
  rw [bytes_list,bytes_list] at h
  cases a; cases b
  simp only [ByteArray.mk.injEq]
  exact Array.toList_inj.1 h
 ·rintro rfl; rfl
theorem sLt_irrefl (a : Str) : sLt a a = false:=bLt_irrefl _
theorem sLt_asymm {a b : Str} (h : sLt a b = true) : sLt b a = false:=bLt_asymm _ _ h
theorem sLt_trans {a b c : Str} (h : sLt a b = true) (k : sLt b c = true) : sLt a c = true:=bLt_trans _ _ _ h k
theorem sLt_total {a b : Str} (h : sLt a b = false) (k : sLt b a = false) : a = b:=str_toList.1 (bLt_total _ _ h k)
def sLe (a b : Str) : Bool:=!sLt b a
theorem sLe_trans {a b c : Str} (h : sLe a b = true) (k : sLe b c = true) : sLe a c = true:=by
 simp only [sLe,Bool.not_eq_true'] at h k ⊢
 cases e : sLt c a with
 | false=>rfl
 | true =>
  cases e2 : sLt b c with
  | true=>rw [sLt_trans e2 e] at h; exact h
  | false =>
   have : b = c:=sLt_total e2 k
   subst this
   rw [e] at h; exact h
theorem sLe_antisymm {a b : Str} (h : sLe a b = true) (k : sLe b a = true) : a = b:=by
 simp only [sLe,Bool.not_eq_true'] at h k
 exact sLt_total k h
def Sorted (l : List Str) : Prop:=l.Pairwise fun a b=>sLe a b = true
theorem sorted_unique : ∀ {l m : List Str},Sorted l → Sorted m → l.Perm m → l = m
 | [],m,_,_,p=>(List.Perm.nil_eq p)
 | a :: l,[],_,_,p=>absurd p.length_eq (by simp)
 | a :: l,b :: m,hl,hm,p=>by
  have e : a = b:=by
   have ha : a ∈ b :: m:=p.subset List.mem_cons_self
   have hb : b ∈ a :: l:=p.symm.subset List.mem_cons_self
   rcases List.mem_cons.1 ha with e | ha
   ·exact e
   ·rcases List.mem_cons.1 hb with e | hb
    ·exact e.symm
    ·exact sLe_antisymm ((List.pairwise_cons.1 hl).1 b hb) ((List.pairwise_cons.1 hm).1 a ha)
  subst e
  rw [sorted_unique (List.pairwise_cons.1 hl).2 (List.pairwise_cons.1 hm).2 (List.Perm.cons_inv p)]
def encS (l : List Str) : AV:=.ofList (l.map AV.str)
theorem encS_toList (l : List Str) : (encS l).toList = some (l.map AV.str):=by
 simp only [encS,AV.ofList,AV.toList]
 congr 1
 exact List.ext_getElem (by simp) (by simp)
theorem encS_fits (l : List Str) {n : Nat} (h : n = l.length) : (Ty.arr n tS).fits (encS l) = true:=by
 subst h
 simp [encS,AV.ofList,Ty.fits,tS,LK.fits,AV.safe]
def txt (l : List Str) (i : Nat) : Str:=l.getD i ⟨#[]⟩
@[go_sem] theorem encS_at (l : List Str) {i : Nat} (h : i < l.length) : (encS l).at [i] = some (.str (txt l i)):=by
 simp [encS,AV.ofList,AV.at,h,txt]
theorem txt_set (l : List Str) (i : Nat) (s : Str) (j : Nat) : txt (l.set i s) j = if j = i ∧ i < l.length then s else txt l j:=by
 simp only [txt,List.getD_eq_getElem?_getD,List.getElem?_set]
 by_cases e : i = j
 ·subst e
  by_cases h : i < l.length
  ·simp [h]
  ·simp [h]
 ·have : ¬j = i:=fun h=>e h.symm
  simp [e,this]
theorem txt_get {l : List Str} {i : Nat} (h : i < l.length) : txt l i = l[i]:=by simp [txt,h]
theorem arr_ofList {n : Nat} {f : Fin n → AV} {l : List AV} (hl : l.length = n) (h : ∀ i (hi : i < n),f ⟨i,hi⟩ = l[i]'(by omega)) : AV.arr n f = AV.ofList l:=by
 subst hl
 simp only [AV.ofList]
 congr 1
 funext i
 exact h i.val i.isLt
@[go_sem] theorem encS_put (l : List Str) {i : Nat} (h : i < l.length) (s : Str) : (encS l).put [i] (.str s) = some (encS (l.set i s)):=by
 simp only [encS,AV.ofList,AV.put,List.length_map,h,dite_true,Option.map_some]
 congr 1
 refine arr_ofList (by simp) fun j hj=>?_
 simp only [List.get_eq_getElem,List.getElem_map,List.getElem_set]
 by_cases e : j = i
 ·subst e; simp
 ·have : ¬i = j:=fun h=>e h.symm
  simp [e,this]
def cmpS (a b : Str) : Int:=if sLt a b = true then -1 else if a = b then 0 else 1
theorem cmpS_lt (a b : Str) : (cmpS a b < 0) ↔ sLt a b = true:=by
 unfold cmpS
 split
 ·simp [*]
 ·rename_i h1
  have h2 : sLt a b = false:=by simpa using h1
  split <;> simp [h2]
@[go_sem] theorem evStr_lss (a b : Str) : evStr .lss a b = some (.bool (sLt a b)):=rfl
@[go_sem] theorem evStr_gtr (a b : Str) : evStr .gtr a b = some (.bool (!(sLt a b || decide (a = b)))):=by
 show some (AV.bool (!(Op.bytesLess a.toList b.toList || a.toList == b.toList))) = _
 rw [bytes_eq]; rfl
section
variable {T : Nat → Option MFun} {cx : Cx} {k : List Item} {kill : List Nat} {r : List MOp} {sl : Slots} {own : Own} {h : HP} {Q : St → Prop}
@[go_sem] theorem sidxV_int {t : Ty} {j : Id} {off len : Nat} {z : Int} {kk : IntKind} {L : Id → Option Blk} (h0 : 0 ≤ z) (hm : z < len) : sidxV t (.sl j off len) (.int kk z) L = sidxB t j (off + z.toNat) (L j):=by
 simp only [sidxV,toIx]; rw [if_pos ⟨by omega,by omega⟩]
@[go_sem] theorem toNat_succ (p : Nat) : ((p : Int) + 1).toNat = p + 1:=by omega
theorem W_callvp {prot : Bool} {f : Nat} {x : Opd} {args : List Opd} {d : Option Nat} {fn : MFun} {v : AV} (hx : St.opd ⟨sl,own,h⟩ x = .func f .unit) (hf : T f = some fn) (hp : fn.params = args.length ∧ fn.nfree = 0)
  (hc : Ok T (St.callCx ⟨sl,own,h⟩ cx prot) fn (St.enter (args.map (St.opd ⟨sl,own,h⟩)) (h.push cx.lvl own)) fun v' h'=>v' = v ∧ h' = h.push cx.lvl own)
  (hq : W T cx (.ops r kill :: k) (St.setd ⟨sl,own,h⟩ d v) Q) :
  W T cx (.ops (⟨d,.callv prot [] x args,none⟩ :: r) kill :: k) ⟨sl,own,h⟩ Q:=by
 refine W_call (R:=fun v' h'=>v' = v ∧ h' = h.push cx.lvl own) (cx':=St.callCx ⟨sl,own,h⟩ cx prot) (hide:=[]) (e:=St.enter (args.map (St.opd ⟨sl,own,h⟩)) (h.push cx.lvl own)) (fn:=fn) (d:=d) (k1:=.ops r kill :: k) (s1:=⟨sl,own,h⟩) ?_ hc ?_
 ·simp only [next,St.wanted,opCmd,hx,enterCmd,hf,capList,List.length_map,List.length_nil,List.append_nil,veil_nil]
  rw [if_pos hp]
 ·rintro v' h' ⟨rfl,rfl⟩
  rw [pop_push]; exact hq
@[go_sem] theorem fg_func (f : Nat) (i : Id) : fg (.func f .unit) i = .func f .unit:=by simp [fg,AV.leads,AV.isAgg,AV.names]
@[go_sem] theorem leads_func (f : Nat) (i : Id) : (AV.func f .unit).leads i = false:=by simp [AV.leads,AV.isAgg,AV.names]
end
structure PermIn (l m : List Str) (a b : Nat) : Prop where
 perm : m.Perm l
 out : ∀ i,(i < a ∨ b ≤ i) → txt m i = txt l i
theorem PermIn.refl (l : List Str) (a b : Nat) : PermIn l l a b:=⟨List.Perm.refl _,fun _ _=>rfl⟩
theorem PermIn.len {l m : List Str} {a b : Nat} (h : PermIn l m a b) : m.length = l.length:=h.perm.length_eq
theorem PermIn.trans {l m n : List Str} {a b : Nat} (h : PermIn l m a b) (k : PermIn m n a b) : PermIn l n a b:=⟨k.perm.trans h.perm,fun i hi=>(k.out i hi).trans (h.out i hi)⟩
def swapL (l : List Str) (i j : Nat) : List Str:=(l.set i (txt l j)).set j (txt l i)
theorem txt_swap {l : List Str} {i j : Nat} (hi : i < l.length) (hj : j < l.length) (x : Nat) : txt (swapL l i j) x = if x = j then txt l i else if x = i then txt l j else txt l x:=by
 simp only [swapL,txt_set,List.length_set,hi,hj,and_true]
theorem swap_perm {l : List Str} {i j : Nat} (hi : i < l.length) (hj : j < l.length) : (swapL l i j).Perm l:=by
 rw [swapL,txt_get hi,txt_get hj]
 exact List.set_set_perm hi hj
theorem PermIn.swap {l : List Str} {a b i j : Nat} (hi : i < l.length) (hj : j < l.length) (h1 : a ≤ i ∧ i < b) (h2 : a ≤ j ∧ j < b) : PermIn l (swapL l i j) a b :=
 ⟨swap_perm hi hj,fun x hx=>by
  rw [txt_swap hi hj,if_neg (by omega),if_neg (by omega)]⟩
def SortedIn (l : List Str) (a b : Nat) : Prop:=∀ x y,a ≤ x → x < y → y < b → sLe (txt l x) (txt l y) = true
def SinkIn (l : List Str) (a i j : Nat) : Prop:=(∀ x y,a ≤ x → x < y → y ≤ i → ¬x = j → ¬y = j → sLe (txt l x) (txt l y) = true) ∧ ∀ y,j < y → y ≤ i → sLe (txt l j) (txt l y) = true
theorem sLe_of_lt {a b : Str} (h : sLt a b = true) : sLe a b = true:=by simp [sLe,sLt_asymm h]
theorem SinkIn.start {l : List Str} {a i : Nat} (h : SortedIn l a i) : SinkIn l a i i:=⟨fun x y hx hy hi hxi hyi=>h x y hx hy (by omega),fun y h1 h2=>by omega⟩
theorem SinkIn.step {l : List Str} {a i j : Nat} (h : SinkIn l a i (j + 1)) (hj : a ≤ j) (hi : j + 1 ≤ i) (hl : i < l.length) (hlt : sLt (txt l (j + 1)) (txt l j) = true) : SinkIn (swapL l (j + 1) j) a i j:=by
 have ts:=txt_swap (l:=l) (i:=j + 1) (j:=j) (by omega) (by omega)
 refine ⟨fun x y hx hxy hyi hxj hyj=>?_,fun y hy hyi=>?_⟩
 ·rw [ts x,ts y,if_neg hxj,if_neg hyj]
  by_cases e1 : x = j + 1
  ·rw [if_pos e1,if_neg (by omega)]
   exact h.1 j y hj (by omega) hyi (by omega) (by omega)
  ·rw [if_neg e1]
   by_cases e2 : y = j + 1
   ·rw [if_pos e2]
    exact h.1 x j hx (by omega) (by omega) (by omega) (by omega)
   ·rw [if_neg e2]
    exact h.1 x y hx hxy hyi (by omega) (by omega)
 ·rw [ts j,ts y,if_pos rfl,if_neg (by omega)]
  by_cases e2 : y = j + 1
  ·rw [if_pos e2]; exact sLe_of_lt hlt
  ·rw [if_neg e2]; exact h.2 y (by omega) hyi
theorem SinkIn.low {l : List Str} {a i : Nat} (h : SinkIn l a i a) : SortedIn l a (i + 1):=fun x y hx hxy hy=>by
 by_cases e : x = a
 ·subst e; exact h.2 y hxy (by omega)
 ·exact h.1 x y hx hxy (by omega) e (by omega)
theorem SinkIn.rest {l : List Str} {a i j : Nat} (h : SinkIn l a i (j + 1)) (hj : a ≤ j) (hge : sLt (txt l (j + 1)) (txt l j) = false) : SortedIn l a (i + 1):=fun x y hx hxy hy=>by
 have hle : sLe (txt l j) (txt l (j + 1)) = true:=by simp [sLe,hge]
 by_cases e : x = j + 1
 ·subst e; exact h.2 y hxy (by omega)
 ·by_cases e2 : y = j + 1
  ·subst e2
   by_cases e3 : x = j
   ·subst e3; exact hle
   ·by_cases e4 : j ≤ i
    ·exact sLe_trans (h.1 x j hx (by omega) e4 e (by omega)) hle
    ·omega
  ·exact h.1 x y hx hxy (by omega) e e2
section
variable {cx : Cx} {h : HP}
theorem isNaN_ok {a : Str} : Ok tblE cx Fn.cmp_isNaN (St.enter [.str a] h) fun v h'=>v = .bool false ∧ h' = h:=by
 rw [Ok_eq]
 simp (maxSteps:=999999) (disch:=omega) only [go_sem]
theorem Compare_ok {a b : Str} : Ok tblE cx Fn.cmp_Compare (St.enter [.str a,.str b] h) fun v h'=>v = .int .i64 (cmpS a b) ∧ h' = h:=by
 rw [Ok_eq]
 simp (maxSteps:=999999) (disch:=omega) only [go_sem]
 refine W_callp rfl ⟨rfl,rfl⟩ (by simp only [go_sem]; exact isNaN_ok) ?_
 simp (maxSteps:=999999) (disch:=omega) only [go_sem]
 refine W_callp rfl ⟨rfl,rfl⟩ (by simp only [go_sem]; exact isNaN_ok) ?_
 simp (maxSteps:=999999) (disch:=omega) only [go_sem]
 cases c1 : sLt a b with
 | true=>simp (maxSteps:=999999) (disch:=omega) only [go_sem,c1]; simp [cmpS,c1]
 | false =>
  simp (maxSteps:=999999) (disch:=omega) only [go_sem,c1]
  by_cases c2 : a = b
  ·simp (maxSteps:=999999) (disch:=omega) only [go_sem,c2]
   simp [cmpS,sLt_irrefl]
  ·simp (maxSteps:=999999) (disch:=omega) only [go_sem,c2]
   simp [cmpS,c1,c2]
theorem List1_ok {a b : Str} : Ok tblE cx Fn.soft_Files_List_1 (St.enter [.str a,.str b] h) fun v h'=>v = .int .i64 (cmpS a b) ∧ h' = h:=by
 rw [Ok_eq]
 simp (maxSteps:=999999) (disch:=omega) only [go_sem]
 refine W_callp rfl ⟨rfl,rfl⟩ (by simp only [go_sem]; exact Compare_ok) ?_
 simp (maxSteps:=999999) (disch:=omega) only [go_sem]
def IsCmp (F : Nat) : Prop:=∃ fn : MFun,tblE F = some fn ∧ (fn.params = 2 ∧ fn.nfree = 0) ∧ ∀ (cx : Cx) (h : HP) (a b : Str),Ok tblE cx fn (St.enter [.str a,.str b] h) fun v h'=>v = .int .i64 (cmpS a b) ∧ h' = h
theorem isCmp289 : IsCmp 289:=⟨_,rfl,⟨rfl,rfl⟩,fun _ _ _ _=>List1_ok⟩
theorem insSort_ok {F q n a b : Nat} {l : List Str} (hl : ∀ n,cx.prot.lets (.obj n) = true) (hF : IsCmp F) (hn : l.length = n) (hb : b ≤ n) (hn2 : n ≤ 1000000) (hab : a ≤ b) (hq : h.look (.obj q) = some ⟨.arr n tS,encS l⟩) :
  Ok tblE cx Fn.slices_insertionSortCmpFunc (St.enter [.sl (.obj q) 0 n,.int .i64 a,.int .i64 b,.func F .unit] h) fun v h'=>v = .tup .unit ∧ ∃ m,h' = h.ob q (.arr n tS) (encS m) ∧ PermIn l m a b ∧ SortedIn m a b:=by
 obtain ⟨fn,hf1,hf2,hf3⟩:=hF
 rw [Ok_eq]
 simp (maxSteps:=999999) (disch:=omega) only [go_sem]
 have h0 : h.ob q (.arr n tS) (encS l) = h:=ob_self hq
 refine W_forE (α:=List Str) (b - a) (fun k m=>⟨[(0,.sl (.obj q) 0 n),(1,.int .i64 a),(2,.int .i64 b),(3,.func F .unit),(8,.int .i64 (a + 1 + k : Nat))],[],h.ob q (.arr n tS) (encS m)⟩) (fun k m=>PermIn l m a b ∧ SortedIn m a (a + 1 + k)) l (by simp only [go_sem,h0] <;> rfl) ⟨PermIn.refl _ _ _,fun x y h1 h2 h3=>by omega⟩ fun k m hk hp ih=>?_
 obtain ⟨hp,hs⟩:=hp
 have hm:=hp.len
 by_cases hlt : a + 1 + k < b
 ·simp (maxSteps:=999999) (disch:=omega) only [go_sem,hlt]
  refine W_forE (α:=List Str) (k + 1) (fun j m=>⟨[(0,.sl (.obj q) 0 n),(1,.int .i64 a),(2,.int .i64 b),(3,.func F .unit),(8,.int .i64 (a + 1 + k : Nat)),(9,.int .i64 ((a + 1 + k - j : Nat) : Int))],[],h.ob q (.arr n tS) (encS m)⟩) (fun j m=>PermIn l m a b ∧ SinkIn m a (a + 1 + k) (a + 1 + k - j)) m (by simp only [go_sem] <;> rfl) ⟨hp,SinkIn.start hs⟩ fun j m hj hp ih2=>?_
  obtain ⟨hp,hs⟩:=hp
  have hm:=hp.len
  by_cases hj2 : j < k + 1
  ·obtain ⟨p,hpd⟩ : ∃ p,a + k - j = p:=⟨_,rfl⟩
   have e1 : a + 1 + k - j = p + 1:=by omega
   rw [e1] at hs ⊢
   have e2 : ((p : Int) + 1 - 1) = (p : Int):=by omega
   simp (maxSteps:=999999) (disch:=first | omega | (simp only [List.length_set]; omega)) only [go_sem,e2]
   refine W_callvp (v:=.int .i64 (cmpS (txt m (p + 1)) (txt m p))) (by simp only [go_sem] <;> rfl) hf1 hf2 (by simp only [go_sem]; exact hf3 _ _ _ _) ?_
   simp (maxSteps:=999999) (disch:=first | omega | (simp only [List.length_set]; omega)) only [go_sem]
   cases c : sLt (txt m (p + 1)) (txt m p) with
   | true =>
    have c' : cmpS (txt m (p + 1)) (txt m p) < 0:=(cmpS_lt _ _).2 c
    simp (maxSteps:=999999) (disch:=first | omega | (simp only [List.length_set]; omega)) only [go_sem,c',e2,stV_ob (hl _)]
    refine ih2 _ (swapL m (p + 1) p) hj2 ?_ ⟨hp.trans (PermIn.swap (by omega) (by omega) (by omega) (by omega)),?_⟩
    ·have e3 : a + 1 + k - (j + 1) = p:=by omega
     simp only [go_sem,e3,swapL]
    ·have e3 : a + 1 + k - (j + 1) = p:=by omega
     rw [e3]
     exact hs.step (by omega) (by omega) (by omega) c
   | false =>
    have c' : ¬cmpS (txt m (p + 1)) (txt m p) < 0:=fun e=>by rw [cmpS_lt,c] at e; simp at e
    simp (maxSteps:=999999) (disch:=first | omega | (simp only [List.length_set]; omega)) only [go_sem,c']
    refine ih _ m (by omega) ?_ ⟨hp,?_⟩
    ·simp only [go_sem,Int.add_assoc]
    ·exact hs.rest (by omega) c
  ·obtain rfl : j = k + 1:=by omega
   have e1 : a + 1 + k - (k + 1) = a:=by omega
   rw [e1] at hs ⊢
   simp (maxSteps:=999999) (disch:=first | omega | (simp only [List.length_set]; omega)) only [go_sem]
   refine ih _ m (by omega) ?_ ⟨hp,?_⟩
   ·simp only [go_sem,Int.add_assoc]
   ·exact hs.low
 ·simp (maxSteps:=999999) (disch:=first | omega | (simp only [List.length_set]; omega)) only [go_sem,hlt]
  refine ⟨m,rfl,hp,fun x y h1 h2 h3=>hs x y h1 h2 (by omega)⟩
def lenTab : Str:=Lib.len8tab
theorem lenTab_get {x : Nat} (hx : x < 256) : ∃ c : UInt8,lenTab[x]? = some c ∧ c.toNat ≤ 8:=by
 have h : ∀ x : Fin 256,∃ c : UInt8,lenTab[x.val]? = some c ∧ c.toNat ≤ 8:=by
  have : ∀ x : Fin 256,(match lenTab[x.val]? with | some c=>decide (c.toNat ≤ 8) | none=>false) = true:=by decide +kernel
  intro x
  have:=this x
  cases e : lenTab[x.val]? with
  | none=>rw [e] at this; simp at this
  | some c=>rw [e] at this; exact ⟨c,rfl,by simpa using this⟩
 exact h ⟨x,hx⟩
theorem Len64_ok {x : Nat} (hx : x < 256) : Ok tblE cx Fn.math_bits_Len64 (St.enter [.int .u64 x] h) fun v h'=>(∃ z : Int,0 ≤ z ∧ z ≤ 8 ∧ v = .int .i64 z) ∧ h' = h:=by
 obtain ⟨c,hc,hc8⟩:=lenTab_get hx
 have e1 : IntKind.u8.wrap (x : Int) = x:=by
  have e1 : (IntKind.u8).bits = 8:=rfl
  have e2 : (IntKind.u8).signed = false:=rfl
  have p1 : (2 : Int) ^ 8 = 256:=rfl
  simp only [IntKind.wrap,e1,e2,Bool.false_and,Bool.false_eq_true,if_false,p1]
  omega
 have e2 : stridxV (.str lenTab) (.int .u8 (x : Int)) = some (.int .u8 c.toNat):=by
  simp only [stridxV,toIx,Int.toNat_natCast,hc,Option.map_some]
  rw [if_pos (by omega)]
 have e3 : IntKind.i64.wrap (c.toNat : Int) = c.toNat:=wrap64 (by omega) (by omega)
 rw [Ok_eq]
 rw [lenTab] at e2
 simp (maxSteps:=999999) (disch:=omega) only [go_sem,e1,e2,e3]
 exact ⟨_,by omega,by omega,rfl⟩
theorem Len_ok {x : Nat} (hx : x < 256) : Ok tblE cx Fn.math_bits_Len (St.enter [.int .u64 x] h) fun v h'=>(∃ z : Int,0 ≤ z ∧ z ≤ 8 ∧ v = .int .i64 z) ∧ h' = h:=by
 rw [Ok_eq]
 simp (maxSteps:=999999) (disch:=omega) only [go_sem]
 refine W_callhv (P:=fun v=>∃ z : Int,0 ≤ z ∧ z ≤ 8 ∧ v = .int .i64 z) h rfl ⟨rfl,rfl⟩ rfl (by simp only [go_sem]; exact Len64_ok hx) ?_
 rintro v ⟨z,z0,z8,rfl⟩
 simp (maxSteps:=999999) (disch:=omega) only [go_sem]
 exact ⟨_,z0,z8,rfl⟩
def sortS (l : List Str) : List Str:=l.mergeSort sLe
theorem sortS_sorted (l : List Str) : Sorted (sortS l):=List.pairwise_mergeSort (le:=sLe) (fun a b c=>sLe_trans) (fun a b=>by
 cases e : sLt b a with
 | false=>simp [sLe,e]
 | true=>simp [sLe,sLt_asymm e]) l
theorem sortS_perm (l : List Str) : (sortS l).Perm l:=List.mergeSort_perm l sLe
theorem sorted_of {m : List Str} (h : SortedIn m 0 m.length) : Sorted m:=by
 rw [Sorted,List.pairwise_iff_getElem]
 intro i j hi hj hij
 have:=h i j (Nat.zero_le _) hij hj
 rwa [txt_get hi,txt_get hj] at this
theorem sortS_eq {l m : List Str} (hp : m.Perm l) (hs : Sorted m) : m = sortS l:=sorted_unique hs (sortS_sorted l) (hp.trans (sortS_perm l).symm)
theorem pdq_small {F q : Nat} {l : List Str} (hl : ∀ n,cx.prot.lets (.obj n) = true) (hF : IsCmp F) (hn : l.length ≤ 12) (hq : h.look (.obj q) = some ⟨.arr l.length tS,encS l⟩) (z : Int) :
  Ok tblE cx Fn.slices_pdqsortCmpFunc (St.enter [.sl (.obj q) 0 l.length,.int .i64 0,.int .i64 l.length,.int .i64 z,.func F .unit] h) fun v h'=>v = .tup .unit ∧ h' = h.ob q (.arr l.length tS) (encS (sortS l)):=by
 rw [Ok_eq]
 simp (maxSteps:=999999) (disch:=omega) only [go_sem,W_round]
 refine W_callR (R:=fun v h1=>v = .tup .unit ∧ h1 = h.ob q (.arr l.length tS) (encS (sortS l))) rfl ⟨rfl,rfl⟩ (by
  simp only [go_sem]
  refine Ok.mono (insSort_ok (q:=q) (n:=l.length) (a:=0) (b:=l.length) (l:=l) (by exact hl) hF rfl (Nat.le_refl _) (by omega) (Nat.zero_le _) (by simp only [go_sem,hq])) ?_
  rintro v h' ⟨rfl,m,rfl,hp,hs⟩
  have em:=sortS_eq hp.perm (sorted_of (by rw [hp.len]; exact hs))
  subst em
  exact ⟨_,push_ob,rfl,rfl,rfl⟩) ?_
 rintro v h1 ⟨rfl,rfl⟩
 simp (maxSteps:=999999) (disch:=omega) only [go_sem]
theorem Sort_ok {F q : Nat} {l : List Str} (hl : ∀ n,cx.prot.lets (.obj n) = true) (hF : IsCmp F) (hn : l.length ≤ 12) (hq : h.look (.obj q) = some ⟨.arr l.length tS,encS l⟩) :
  Ok tblE cx Fn.slices_SortFunc (St.enter [.sl (.obj q) 0 l.length,.func F .unit] h) fun v h'=>v = .tup .unit ∧ h' = h.ob q (.arr l.length tS) (encS (sortS l)):=by
 have e1 : IntKind.u64.wrap (l.length : Int) = l.length:=by
  have e1 : (IntKind.u64).bits = 64:=rfl
  have e2 : (IntKind.u64).signed = false:=rfl
  have p1 : (2 : Int) ^ 64 = 18446744073709551616:=rfl
  simp only [IntKind.wrap,e1,e2,Bool.false_and,Bool.false_eq_true,if_false,p1]
  omega
 rw [Ok_eq]
 simp (maxSteps:=999999) (disch:=omega) only [go_sem,e1]
 refine W_callhv (P:=fun v=>∃ z : Int,0 ≤ z ∧ z ≤ 8 ∧ v = .int .i64 z) h rfl ⟨rfl,rfl⟩ rfl (by simp only [go_sem]; exact Len_ok (x:=l.length) (by omega)) ?_
 rintro v ⟨z,z0,z8,rfl⟩
 simp (maxSteps:=999999) (disch:=omega) only [go_sem]
 refine W_callh (v:=.tup .unit) (h.ob q (.arr l.length tS) (encS (sortS l))) rfl ⟨rfl,rfl⟩ rfl (by simp only [go_sem]; exact pdq_small (by exact hl) hF hn (by simp only [go_sem,hq]) z) ?_
 simp (maxSteps:=999999) (disch:=omega) only [go_sem]
theorem insNil_ok {F : Nat} : Ok tblE cx Fn.slices_insertionSortCmpFunc (St.enter [.nilsl,.int .i64 0,.int .i64 0,.func F .unit] h) fun v h'=>v = .tup .unit ∧ h' = h:=by
 rw [Ok_eq]
 simp (maxSteps:=999999) (disch:=omega) only [go_sem,W_round]
theorem pdqNil_ok {F : Nat} {z : Int} : Ok tblE cx Fn.slices_pdqsortCmpFunc (St.enter [.nilsl,.int .i64 0,.int .i64 0,.int .i64 z,.func F .unit] h) fun v h'=>v = .tup .unit ∧ h' = h:=by
 rw [Ok_eq]
 simp (maxSteps:=999999) (disch:=omega) only [go_sem,W_round]
 refine W_callp rfl ⟨rfl,rfl⟩ (by simp only [go_sem]; exact insNil_ok) ?_
 simp (maxSteps:=999999) (disch:=omega) only [go_sem]
theorem SortNil_ok {F : Nat} : Ok tblE cx Fn.slices_SortFunc (St.enter [.nilsl,.func F .unit] h) fun v h'=>v = .tup .unit ∧ h' = h:=by
 have e1 : IntKind.u64.wrap 0 = ((0 : Nat) : Int):=by decide +kernel
 rw [Ok_eq]
 simp (maxSteps:=999999) (disch:=omega) only [go_sem,e1]
 refine W_callhv (P:=fun v=>∃ z : Int,0 ≤ z ∧ z ≤ 8 ∧ v = .int .i64 z) h rfl ⟨rfl,rfl⟩ rfl (by simp only [go_sem]; exact Len_ok (x:=0) (by omega)) ?_
 rintro v ⟨z,z0,z8,rfl⟩
 simp (maxSteps:=999999) (disch:=omega) only [go_sem]
 refine W_callp rfl ⟨rfl,rfl⟩ (by simp only [go_sem]; exact pdqNil_ok) ?_
 simp (maxSteps:=999999) (disch:=omega) only [go_sem]
end
def namesL (a : Img) (d : Nat) : Nat → List Str
 | 0=>[]
 | k + 1=>if (a.ent d k).name = ⟨#[]⟩ then namesL a d k else namesL a d k ++ [(a.ent d k).name]
theorem namesL_len (a : Img) (d : Nat) : ∀ k,(namesL a d k).length ≤ k
 | 0=>Nat.le_refl _
 | k + 1=>by
  have:=namesL_len a d k
  unfold namesL
  split
  ·omega
  ·simp; omega
def listOf (a : Img) (d : Int) : List Str:=if d < 0 ∨ 3 ≤ d then [] else sortS (namesL a d.toNat 4)
def HP.dl (h : HP) (q : Nat) : HP:={ h with obj:=fun k=>if k = q then none else h.obj k }
theorem Fr.dl {h h1 : HP} {q : Nat} {S : List Nat} (a : Fr h h1 S) (hq : h.next ≤ q) : Fr h (h1.dl q) S :=
 ⟨a.stk,a.arg,a.next,fun n hn hs=>by
  show (if n = q then none else h1.obj n) = _
  rw [if_neg (by omega)]; exact a.same n hn hs⟩
def SlF (h h1 : HP) (v : AV) (l : List Str) : Prop:=(v = .nilsl ∧ l = []) ∨ ∃ q,v = .sl (.obj q) 0 l.length ∧ h.next ≤ q ∧ q < h1.next ∧ h1.look (.obj q) = some ⟨.arr l.length tS,encS l⟩
section
variable {T : Nat → Option MFun} {cx : Cx} {k : List Item} {kill : List Nat} {r : List MOp} {sl : Slots} {own : Own} {h : HP} {Q : St → Prop}
def WBs (T : Nat → Option MFun) (cx : Cx) (v : AV) (d : Nat) (r : List MOp) (kill : List Nat) (k : List Item) (sl : Slots) (own : Own) (h : HP) (Q : St → Prop) : Prop :=
 onO (fill (.arr 1 tS) (Ty.arr 1 tS).zero [(0,v)]) fun w=>W T cx (.ops r kill :: k) ⟨(Slots.forget sl (.stk cx.lvl d)).set d (.sl (.stk cx.lvl d) 0 1),own.set d ⟨.arr 1 tS,w⟩,h⟩ Q
theorem fill1s (s : Str) : fill (.arr 1 tS) (Ty.arr 1 tS).zero [(0,.str s)] = some (encS [s]):=by
 simp only [fill,Ty.part,Nat.lt_one_iff,if_true,fits_tS,Ty.zero,AV.put,Nat.zero_lt_one,dite_true,put_nil,Option.map_some,encS,AV.ofList]
 congr 2
 funext j
 match j with
 | ⟨0,_⟩=>rfl
@[go_sem] theorem WBs_str {s : Str} {d : Nat} : WBs T cx (.str s) d r kill k sl own h Q = W T cx (.ops r kill :: k) ⟨(Slots.forget sl (.stk cx.lvl d)).set d (.sl (.stk cx.lvl d) 0 1),own.set d ⟨.arr 1 tS,encS [s]⟩,h⟩ Q:=by
 simp only [WBs,fill1s,onO]
@[go_sem] theorem W_bslice1s {d : Nat} {x : Opd} : W T cx (.ops (⟨some d,.bslice false tS 1 [(0,x)],none⟩ :: r) kill :: k) ⟨sl,own,h⟩ Q = WBs T cx (St.opd ⟨sl,own,h⟩ x) d r kill k sl own h Q:=by
 rw [W_op rfl,evOp]
 simp only [evK,WBs,List.map_cons,List.map_nil]
 cases fill (.arr 1 tS) (Ty.arr 1 tS).zero [(0,St.opd ⟨sl,own,h⟩ x)] <;> rfl
def WAs (T : Nat → Option MFun) (cx : Cx) (x : AV) (add : Option (List AV)) (d : Nat) (r : List MOp) (kill : List Nat) (k : List Item) (sl : Slots) (own : Own) (h : HP) (Q : St → Prop) : Prop :=
 onO add fun add=>onO (evAppend (St.look cx ⟨sl,own,h⟩) tS x add) fun e=>onO (applyEff cx (some d) true ⟨sl,own,h⟩ e) fun p=>W T cx (.ops r kill :: k) (p.2.setd (some d) p.1) Q
def elemsS (b : Option Blk) (len : Nat) : Option (List AV):=match b with
 | some ⟨.arr _ t',v⟩=>match v.toList with
   | some l=>if tS = t' ∧ len ≤ l.length then some (l.take len) else none
   | none=>none
 | _=>none
@[go_sem] theorem elems_slS (L : Id → Option Blk) (j : Id) (len : Nat) : elems L tS (.sl j 0 len) = elemsS (L j) len:=by
 simp only [elems,elemsS,Nat.zero_add,List.drop_zero]
 cases L j with
 | none=>rfl
 | some b=>obtain ⟨bt,bv⟩:=b; cases bt <;> rfl
@[go_sem] theorem elemsS_all (l : List Str) (n : Nat) : elemsS (some ⟨.arr n tS,encS l⟩) l.length = some (l.map AV.str):=by
 have : List.take l.length (List.map AV.str l) = List.map AV.str l:=List.take_of_length_le (by simp)
 simp [elemsS,encS_toList,this]
@[go_sem] theorem elemsS_one (s : Str) : elemsS (some ⟨.arr 1 tS,encS [s]⟩) 1 = some [.str s]:=by
 simp [elemsS,encS_toList]
@[go_sem] theorem W_appendS {d : Nat} {x y : Opd} : W T cx (.ops (⟨some d,.append true [] tS x y,none⟩ :: r) kill :: k) ⟨sl,own,h⟩ Q = WAs T cx (St.opd ⟨sl,own,h⟩ x) (elems (St.look cx ⟨sl,own,h⟩) tS (St.opd ⟨sl,own,h⟩ y)) d r kill k sl own h Q:=by
 rw [W_op rfl,evOp]
 simp only [evK,WAs]
 cases elems (St.look cx ⟨sl,own,h⟩) tS (St.opd ⟨sl,own,h⟩ y) with
 | none=>rfl
 | some add =>
  simp only [onO_some]
  cases evAppend (St.look cx ⟨sl,own,h⟩) tS (St.opd ⟨sl,own,h⟩ x) add <;> rfl
@[go_sem] theorem WAs_nil {s : Str} {d : Nat} : WAs T cx .nilsl (some [.str s]) d r kill k sl own h Q =
  W T cx (.ops r kill :: k) ⟨sl.set d (.sl (.obj h.next) 0 1),own,h.nw (.arr 1 tS) (encS [s])⟩ Q:=by
 have hf:=encS_fits [s] (n:=1) rfl
 simp only [WAs,onO_some,evAppend,List.length_cons,List.length_nil,Nat.zero_add]
 rw [if_neg (by omega),if_pos ⟨hf,by omega⟩]
 rfl
theorem WAs_grow {d q : Nat} {s : Str} {l : List Str} (hl : cx.prot.lets (.obj q) = true) (hq : h.look (.obj q) = some ⟨.arr l.length tS,encS l⟩) (hm : l.length + 1 ≤ 1048576) : WAs T cx (.sl (.obj q) 0 l.length) (some [.str s]) d r kill k sl own h Q =
  W T cx (.ops r kill :: k) ⟨sl.set d (.sl (.obj h.next) 0 (l ++ [s]).length),own,(h.dl q).nw (.arr (l ++ [s]).length tS) (encS (l ++ [s]))⟩ Q:=by
 have hf:=encS_fits (l ++ [s]) (n:=l.length + 1) (by simp)
 have e : List.map AV.str (l ++ [s]) = (List.map AV.str l).take l.length ++ [.str s]:=by
  rw [List.map_append,List.take_of_length_le (by simp)]; rfl
 have el : (l ++ [s]).length = l.length + 1:=by simp
 simp only [encS,e] at hf ⊢
 simp only [WAs,onO_some,evAppend,look_obj,hq,encS_toList,List.length_map,List.length_cons,List.length_nil,Nat.zero_add,List.drop_zero,if_true]
 rw [if_neg (by omega),if_pos (by omega),if_pos ⟨hf,hm⟩]
 simp only [onO_some,applyEff,St.drop,Id.own,hl,if_true,Option.map_some,el]
 rfl
end
section
variable {cx : Cx} {h : HP} {f c : Nat} {a b : Img} {st : Int}
theorem List_ok {d : Int} (hl : ∀ n,cx.prot.lets (.obj n) = true) (hF : h.look (.obj f) = some ⟨tFiles,encF c st⟩) (hC : h.look (.obj c) = some ⟨tCache,encC a b⟩) :
  Ok tblE cx Fn.soft_Files_List (St.enter [.ptr (.obj f) [] tFiles,.int .i64 d] h) fun v h'=>Fr h h' [] ∧ SlF h h' v (listOf a d):=by
 rw [Ok_eq]
 simp (maxSteps:=999999) (disch:=omega) only [go_sem]
 by_cases c0 : d < 0
 ·simp (maxSteps:=999999) (disch:=omega) only [go_sem,c0]
  exact ⟨Fr.refl _ _,.inl ⟨rfl,by simp [listOf,c0]⟩⟩
 by_cases c3 : 3 ≤ d
 ·simp (maxSteps:=999999) (disch:=omega) only [go_sem,c0,c3]
  exact ⟨Fr.refl _ _,.inl ⟨rfl,by simp [listOf,c3]⟩⟩
 have d3 : d.toNat < 3:=by omega
 have eL : listOf a d = sortS (namesL a d.toNat 4):=by simp only [listOf]; rw [if_neg (by omega)]
 simp (maxSteps:=999999) (disch:=omega) only [go_sem,c0,c3,hF,hC]
 refine W_forE (α:=AV × HP) 4 (fun k p=>⟨[(5,p.1),(23,encV Ent.enc a.dir[d.toNat]),(24,.int .i64 k)],[],p.2⟩) (fun k p=>Fr h p.2 [] ∧ SlF h p.2 p.1 (namesL a d.toNat k)) (.nilsl,h) (by simp only [go_sem] <;> rfl) ⟨Fr.refl _ _,.inl ⟨rfl,rfl⟩⟩ fun k p hk hp ih=>?_
 obtain ⟨v,h1⟩:=p
 obtain ⟨hr,hs⟩:=hp
 simp only at hr hs ⊢
 have hlen:=namesL_len a d.toNat k
 by_cases hlt : k < 4
 ·by_cases ce : (a.ent d.toNat k).name = ⟨#[]⟩
  ·have en : namesL a d.toNat (k + 1) = namesL a d.toNat k:=by simp [namesL,ce]
   rcases hs with ⟨rfl,hl0⟩ | ⟨q,rfl,hq1,hq2,hq3⟩
   ·simp (maxSteps:=999999) (disch:=omega) only [go_sem,hlt,ce]
    refine ih _ (.nilsl,h1) hlt ?_ ⟨hr,by rw [en]; exact .inl ⟨rfl,hl0⟩⟩
    simp only [go_sem]
   ·simp (maxSteps:=999999) (disch:=omega) only [go_sem,hlt,ce]
    refine ih _ (.sl (.obj q) 0 (namesL a d.toNat k).length,h1) hlt ?_ ⟨hr,by rw [en]; exact .inr ⟨q,rfl,hq1,hq2,hq3⟩⟩
    simp only [go_sem]
  ·have en : namesL a d.toNat (k + 1) = namesL a d.toNat k ++ [(a.ent d.toNat k).name]:=by simp [namesL,ce]
   rcases hs with ⟨rfl,hl0⟩ | ⟨q,rfl,hq1,hq2,hq3⟩
   ·simp (maxSteps:=999999) (disch:=omega) only [go_sem,hlt,ce]
    refine ih _ (.sl (.obj h1.next) 0 1,h1.nw (.arr 1 tS) (encS [(a.ent d.toNat k).name])) hlt ?_ ⟨hr.trans Fr.nw,?_⟩
    ·simp only [go_sem]
    ·rw [en,hl0]
     exact .inr ⟨h1.next,rfl,hr.next,Nat.lt_succ_self _,look_nw⟩
   ·simp (maxSteps:=999999) (disch:=omega) only [go_sem,hlt,ce]
    rw [WAs_grow (hl q) hq3 (by omega)]
    simp (maxSteps:=999999) (disch:=omega) only [go_sem]
    refine ih _ (.sl (.obj h1.next) 0 (namesL a d.toNat k ++ [(a.ent d.toNat k).name]).length,(h1.dl q).nw (.arr (namesL a d.toNat k ++ [(a.ent d.toNat k).name]).length tS) (encS (namesL a d.toNat k ++ [(a.ent d.toNat k).name]))) hlt ?_ ⟨(hr.dl hq1).trans Fr.nw,?_⟩
    ·simp only [go_sem]
    ·rw [en]
     exact .inr ⟨h1.next,rfl,hr.next,Nat.lt_succ_self _,look_nw (h:=h1.dl q)⟩
 ·obtain rfl : k = 4:=by omega
  rcases hs with ⟨rfl,hl0⟩ | ⟨q,rfl,hq1,hq2,hq3⟩
  ·simp (maxSteps:=999999) (disch:=omega) only [go_sem]
   refine W_callp rfl ⟨rfl,rfl⟩ (by simp only [go_sem]; exact SortNil_ok) ?_
   simp (maxSteps:=999999) (disch:=omega) only [go_sem]
   refine ⟨hr,.inl ⟨rfl,?_⟩⟩
   rw [eL,hl0]; simp [sortS]
  ·have ls : (sortS (namesL a d.toNat 4)).length = (namesL a d.toNat 4).length:=(sortS_perm _).length_eq
   simp (maxSteps:=999999) (disch:=omega) only [go_sem]
   refine W_callh (v:=.tup .unit) (h1.ob q (.arr (namesL a d.toNat 4).length tS) (encS (sortS (namesL a d.toNat 4)))) rfl ⟨rfl,rfl⟩ rfl (by simp only [go_sem]; exact Sort_ok (by exact hl) isCmp289 (by omega) (by simp only [go_sem,hq3])) ?_
   simp (maxSteps:=999999) (disch:=omega) only [go_sem]
   refine ⟨⟨hr.stk,hr.arg,hr.next,fun n hn hs=>by rw [obj_ob_ne (by omega)]; exact hr.same n hn hs⟩,.inr ⟨q,?_,hq1,hq2,?_⟩⟩
   ·rw [eL,ls]
   ·rw [eL,ls]; exact look_ob
end
def encSteps (l : List SStep) : AV:=.ofList (l.map SStep.enc)
def stp (l : List SStep) (k : Nat) : SStep:=l.getD k ⟨0,0,0,0,⟨#[]⟩,⟨#[]⟩,⟨#[]⟩⟩
@[go_sem] theorem encSteps_at (l : List SStep) {k : Nat} (h : k < l.length) (p : List Nat) : (encSteps l).at (k :: p) = (stp l k).enc.at p:=by
 simp [encSteps,AV.ofList,AV.at,h,stp]
structure StepsV (h : HP) (v : AV) (l : List SStep) : Prop where
 len : lenV false v = some (.int .i64 l.length)
 fg : ∀ a b,Go.Mini.fg v (.stk a b) = v
 ld : ∀ a b,v.leads (.stk a b) = false
 ix : ∀ k,k < l.length → ∃ n,v = .sl (.arg n) 0 l.length ∧ h.look (.arg n) = some ⟨.arr l.length tStep,encSteps l⟩
theorem StepsV.to {h h' : HP} {v : AV} {l : List SStep} (a : StepsV h v l) (e : h'.arg = h.arg) : StepsV h' v l :=
 ⟨a.len,a.fg,a.ld,fun k hk=>by
  obtain ⟨n,h1,h2⟩:=a.ix k hk
  exact ⟨n,h1,by simp only [HP.look,e] at h2 ⊢; exact h2⟩⟩
theorem StepsV.push {h : HP} {v : AV} {l : List SStep} {a : Nat} {o : Own} (s : StepsV h v l) : StepsV (h.push a o) v l:=s.to rfl
structure SStep.ok (x : SStep) : Prop where
 name : x.name.size ≤ 9223372036854775807
 to : x.to.size ≤ 9223372036854775807
 text : x.text.size ≤ 9223372036854775807
section
variable {T : Nat → Option MFun} {cx : Cx} {k : List Item} {kill : List Nat} {r : List MOp} {sl : Slots} {own : Own} {h : HP} {Q : St → Prop}
def roV (v : AV) (o : Option AV) : Option AV:=match v with
 | .sl j _ _=>if j.isArg = true then o else none
 | .ptr j _ _=>if j.isArg = true then o else none
 | _=>none
@[go_sem] theorem roV_sl (n a b : Nat) (o : Option AV) : roV (.sl (.arg n) a b) o = o:=rfl
@[go_sem] theorem roV_ptr (n : Nat) (p : List Nat) (t : Ty) (o : Option AV) : roV (.ptr (.arg n) p t) o = o:=rfl
@[go_sem] theorem W_sidxT {d : Option Nat} {t : Ty} {x i : Opd} {s : St} : W T cx (.ops (⟨d,.sidx true t x i,none⟩ :: r) kill :: k) s Q = W1 T cx (roV (s.opd x) (sidxV t (s.opd x) (s.opd i) (s.look cx))) d r kill k s Q :=
 W_val rfl (by
  simp only [evK,sidxV,roV]
  cases s.opd x <;> try (simp; done)
  rename_i j off len
  cases toIx (s.opd i) with
  | none=>simp only []; split <;> rfl
  | some z =>
   simp only [true_implies]
   by_cases hj : j.isArg = true
   ·rw [if_pos hj]
    by_cases hz : 0 ≤ z ∧ z < (len : Int)
    ·rw [if_pos ⟨hz.1,hz.2,hj⟩,if_pos hz]
     cases s.look cx j with
     | none=>rfl
     | some b =>
      obtain ⟨bt,bv⟩:=b
      cases bt <;> try rfl
      simp only [sidxB]
      split <;> rfl
    ·rw [if_neg (fun h=>hz ⟨h.1,h.2.1⟩),if_neg hz]; rfl
   ·rw [if_neg (fun h=>hj h.2.2),if_neg hj]; rfl)
@[go_sem] theorem W_loadT {d : Option Nat} {t : Ty} {x : Opd} {s : St} : W T cx (.ops (⟨d,.load true none t x,none⟩ :: r) kill :: k) s Q = W1 T cx (roV (s.opd x) (ldV t (s.opd x) (s.rd cx))) d r kill k s Q :=
 W_val rfl (by
  simp only [evK,roV]
  cases s.opd x <;> simp only [ldV,rooted,true_implies,true_and,and_true,Option.map_none] <;> try rfl
  ·rename_i i p t'
   by_cases hj : i.isArg = true
   ·rw [if_pos hj]
    by_cases ht : t = t'
    ·simp only [ht,hj,and_self,if_true,St.rd]
     cases (s.look cx i).bind fun b=>b.val.at p with
     | none=>rfl
     | some v=>by_cases hf : t'.fits v = true <;> simp [hf]
    ·rw [if_neg (fun h=>ht h.1),if_neg ht]; rfl
   ·rw [if_neg (fun h=>hj h.2),if_neg hj]; rfl
  ·split <;> rfl)
end
def SlX (h : HP) (l : Nat) (v : AV) (m : List Str) : Prop:=(v = .nilsl ∧ m = []) ∨ ∃ i,v = .sl i 0 m.length ∧ i.below l ∧ h.look i = some ⟨.arr m.length tS,encS m⟩
theorem SlF.x {h h1 : HP} {v : AV} {m : List Str} {l : Nat} (a : SlF h h1 v m) : SlX h1 l v m:=by
 rcases a with a | ⟨q,h1,_,_,h2⟩
 ·exact .inl a
 ·exact .inr ⟨.obj q,h1,below_obj _ _,h2⟩
theorem SlX.len {h : HP} {l : Nat} {v : AV} {m : List Str} (a : SlX h l v m) : lenV false v = some (.int .i64 m.length):=by
 rcases a with ⟨rfl,rfl⟩ | ⟨i,rfl,_⟩ <;> rfl
def LifeN (h0 h : HP) (p : Nat) (L : Lf) : Prop:=∃ f c,LifeAt h p f c L ∧ (h0.next ≤ p ∧ h0.next ≤ f ∧ h0.next ≤ c) ∧ Fr h0 h []
theorem LifeN.same {h0 h1 h2 : HP} {p : Nat} {L : Lf} (a : LifeN h0 h1 p L) (b : Fr h1 h2 []) : LifeN h0 h2 p L:=by
 obtain ⟨f,c,hA,hb,hF⟩:=a
 exact ⟨f,c,⟨b.look hA.pn (by simp) hA.li,b.look hA.fn (by simp) hA.fi,b.look hA.cn (by simp) hA.ca,hA.pf,hA.fc,hA.pc,Nat.lt_of_lt_of_le hA.pn b.next,Nat.lt_of_lt_of_le hA.fn b.next,Nat.lt_of_lt_of_le hA.cn b.next⟩,hb,hF.trans b⟩
theorem LifeN.pop {h0 h1 : HP} {p l : Nat} {o : Own} {L : Lf} (a : LifeN (h0.push l o) (h1.push l o) p L) (hs : h1.stk = h0.stk) : LifeN h0 h1 p L:=by
 obtain ⟨f,c,hA,hb,hF⟩:=a
 exact ⟨f,c,hA.pop,hb,⟨hs,hF.arg,hF.next,hF.same⟩⟩
theorem LifeN.push {h0 h1 : HP} {p l : Nat} {o : Own} {L : Lf} (a : LifeN h0 h1 p L) : LifeN (h0.push l o) (h1.push l o) p L:=by
 obtain ⟨f,c,hA,hb,hF⟩:=a
 exact ⟨f,c,hA.push,hb,⟨by simp only [HP.push,hF.stk],hF.arg,hF.next,hF.same⟩⟩
theorem LifeN.stk {h0 h1 : HP} {p : Nat} {L : Lf} (a : LifeN h0 h1 p L) : h1.stk = h0.stk:=by
 obtain ⟨f,c,_,_,hF⟩:=a; exact hF.stk
theorem LifeN.arg {h0 h1 : HP} {p : Nat} {L : Lf} (a : LifeN h0 h1 p L) : h1.arg = h0.arg:=by
 obtain ⟨f,c,_,_,hF⟩:=a; exact hF.arg
@[go_sem] theorem fill_stepA (k : Int) : fill tStep tStep.zero [(0,.int .i64 k)] = some (SStep.enc ⟨k,0,0,0,⟨#[]⟩,⟨#[]⟩,⟨#[]⟩⟩):=rfl
@[go_sem] theorem fill_stepB (k : Int) (s : Str) : fill tStep tStep.zero [(0,.int .i64 k),(4,.str s)] = some (SStep.enc ⟨k,0,0,0,s,⟨#[]⟩,⟨#[]⟩⟩):=rfl
@[go_sem] theorem fill_stepC (k p : Int) : fill tStep tStep.zero [(0,.int .i64 k),(3,.int .i64 p)] = some (SStep.enc ⟨k,0,0,p,⟨#[]⟩,⟨#[]⟩,⟨#[]⟩⟩):=rfl
@[go_sem] theorem fill_lost1 (a : Int) : fill tLost (encLost 0 0 0) [(0,.int .i64 a)] = some (encLost a 0 0):=rfl
theorem SlF.push {h h1 : HP} {v : AV} {m : List Str} {l l' : Nat} {o o' : Own} (a : SlF (h.push l o) (h1.push l' o') v m) : SlF h h1 v m:=a
theorem inv_new : Inv0 Lf.new.fl:=⟨WF_check (by decide +kernel),small_of (by decide +kernel),small_of (by decide +kernel)⟩
end Go.Mini
