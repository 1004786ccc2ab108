/- A part of the proof: what Se computes, step by step. -/
import Derived.Test.YtpkndgkaecamlacSePd

set_option linter.unusedSimpArgs false
set_option linter.unusedVariables false
set_option maxHeartbeats 4000000
set_option maxRecDepth 100000
namespace Go.Mini
namespace Fn
@[reducible] def ideal_Check.r0 : List MOp:=[⟨some 1,.box false tStep (.s 0),none⟩,⟨some 2,.mov (.c (.int .i64 0)),none⟩]
@[reducible] def ideal_Check.r1 : List MOp:=[⟨some 4,.fld tStep 0 tI (.s 1),none⟩,⟨some 5,.load false none tI (.s 4),none⟩,⟨some 6,.bin .lss (.s 5) (.c (.int .i64 1)),none⟩,⟨some 7,.mov (.s 6),none⟩,⟨some 8,.fld tStep 0 tI (.s 1),some (7,false)⟩,⟨some 9,.load false none tI (.s 8),some (7,false)⟩,⟨some 10,.bin .gtr (.s 9) (.c (.int .i64 6)),some (7,false)⟩,⟨some 11,.pick (.s 7) (.c (.bool true)) (.s 10),none⟩]
@[reducible] def ideal_Check.r2 : List MOp:=[⟨some 2,.mov (.c (.int .i64 7)),none⟩]
@[reducible] def ideal_Check.r3 : List MOp:=[⟨some 12,.fld tStep 1 tI (.s 1),none⟩,⟨some 13,.load false none tI (.s 12),none⟩,⟨some 14,.fld tStep 4 tS (.s 1),none⟩,⟨some 15,.load false none tS (.s 14),none⟩,⟨some 16,.call false [] 232 [(.s 13),(.s 15)],none⟩,⟨some 3,.mov (.s 16),none⟩]
@[reducible] def ideal_Check.r4 : List MOp:=[⟨some 17,.mov (.s 3),none⟩,⟨some 18,.bin .neq (.s 17) (.c (.int .i64 0)),none⟩]
@[reducible] def ideal_Check.r5 : List MOp:=[⟨some 19,.mov (.s 3),none⟩,⟨some 2,.mov (.s 19),none⟩]
@[reducible] def ideal_Check.r6 : List MOp:=[⟨some 20,.fld tStep 0 tI (.s 1),none⟩,⟨some 21,.load false none tI (.s 20),none⟩,⟨some 22,.bin .eql (.s 21) (.c (.int .i64 2)),none⟩,⟨some 23,.mov (.s 22),none⟩,⟨some 24,.fld tStep 0 tI (.s 1),some (23,false)⟩,⟨some 25,.load false none tI (.s 24),some (23,false)⟩,⟨some 26,.bin .eql (.s 25) (.c (.int .i64 4)),some (23,false)⟩,⟨some 27,.pick (.s 23) (.c (.bool true)) (.s 26),none⟩]
@[reducible] def ideal_Check.r7 : List MOp:=[⟨some 28,.fld tStep 2 tI (.s 1),none⟩,⟨some 29,.load false none tI (.s 28),none⟩,⟨some 30,.fld tStep 5 tS (.s 1),none⟩,⟨some 31,.load false none tS (.s 30),none⟩,⟨some 32,.call false [] 232 [(.s 29),(.s 31)],none⟩,⟨some 2,.mov (.s 32),none⟩]
@[reducible] def ideal_Check.r8 : List MOp:=[⟨some 33,.fld tStep 0 tI (.s 1),none⟩,⟨some 34,.load false none tI (.s 33),none⟩,⟨some 35,.bin .eql (.s 34) (.c (.int .i64 5)),none⟩,⟨some 36,.mov (.s 35),none⟩,⟨some 37,.fld tStep 0 tI (.s 1),some (36,false)⟩,⟨some 38,.load false none tI (.s 37),some (36,false)⟩,⟨some 39,.bin .eql (.s 38) (.c (.int .i64 6)),some (36,false)⟩,⟨some 40,.pick (.s 36) (.c (.bool true)) (.s 39),none⟩,⟨some 41,.mov (.s 40),none⟩,⟨some 42,.fld tStep 3 tI (.s 1),some (41,true)⟩,⟨some 43,.load false none tI (.s 42),some (41,true)⟩,⟨some 44,.bin .lss (.s 43) (.c (.int .i64 0)),some (41,true)⟩,⟨some 45,.mov (.s 44),some (41,true)⟩,⟨some 46,.fld tStep 3 tI (.s 1),some (45,false)⟩,⟨some 47,.load false none tI (.s 46),some (45,false)⟩,⟨some 48,.bin .geq (.s 47) (.c (.int .i64 2)),some (45,false)⟩,⟨some 49,.pick (.s 45) (.c (.bool true)) (.s 48),some (41,true)⟩,⟨some 50,.pick (.s 41) (.s 49) (.c (.bool false)),none⟩]
@[reducible] def ideal_Check.r9 : List MOp:=[⟨some 2,.mov (.c (.int .i64 1)),none⟩]
@[reducible] def ideal_Check.r10 : List MOp:=[⟨some 51,.fld tStep 0 tI (.s 1),none⟩,⟨some 52,.load false none tI (.s 51),none⟩,⟨some 53,.bin .eql (.s 52) (.c (.int .i64 5)),none⟩,⟨some 54,.mov (.s 53),none⟩,⟨some 55,.fld tStep 6 tS (.s 1),some (54,true)⟩,⟨some 56,.load false none tS (.s 55),some (54,true)⟩,⟨some 57,.len true (.s 56),some (54,true)⟩,⟨some 58,.bin .gtr (.s 57) (.c (.int .i64 8)),some (54,true)⟩,⟨some 59,.pick (.s 54) (.s 58) (.c (.bool false)),none⟩]
@[reducible] def ideal_Check.r11 : List MOp:=[⟨some 2,.mov (.c (.int .i64 3)),none⟩]
@[reducible] def ideal_Check.r12 : List MOp:=[⟨some 2,.mov (.c (.int .i64 0)),none⟩]
@[reducible] def ideal_Check.body : MC:=(.seq (.reg false ideal_Check.r0 [0,2]) (.seq (.seq (.reg false ideal_Check.r1 [4,5,6,7,8,9,10]) (.cond (.s 11) (.seq (.reg false ideal_Check.r2 []) .ret) .skip)) (.seq (.seq (.reg false ideal_Check.r3 [12,13,14,15,16]) (.seq (.reg false ideal_Check.r4 [17]) (.cond (.s 18) (.seq (.reg false ideal_Check.r5 [3,19]) .ret) .skip))) (.seq (.seq (.reg false ideal_Check.r6 [20,21,22,23,24,25,26]) (.cond (.s 27) (.seq (.reg false ideal_Check.r7 [1,28,29,30,31,32]) .ret) .skip)) (.seq (.seq (.reg false ideal_Check.r8 [33,34,35,36,37,38,39,40,41,42,43,44,45,46,47,48,49]) (.cond (.s 50) (.seq (.reg false ideal_Check.r9 []) .ret) .skip)) (.seq (.seq (.reg false ideal_Check.r10 [1,51,52,53,54,55,56,57,58]) (.cond (.s 59) (.seq (.reg false ideal_Check.r11 []) .ret) .skip)) (.seq (.reg false ideal_Check.r12 []) .ret)))))))
@[reducible] def ideal_Check : MFun:={ params:=1,nfree:=0,res:=[.tmp 2],body:=ideal_Check.body }
@[reducible] def r_SameTexts.r0 : List MOp:=[⟨some 4,.mov (.c (.bool false)),none⟩]
@[reducible] def r_SameTexts.r1 : List MOp:=[⟨some 6,.mov (.s 0),none⟩,⟨some 7,.len false (.s 6),none⟩,⟨some 8,.mov (.s 1),none⟩,⟨some 9,.len false (.s 8),none⟩,⟨some 10,.bin .neq (.s 7) (.s 9),none⟩]
@[reducible] def r_SameTexts.r2 : List MOp:=[⟨some 4,.mov (.c (.bool false)),none⟩]
@[reducible] def r_SameTexts.r3 : List MOp:=[⟨some 5,.mov (.c (.int .i64 0)),none⟩]
@[reducible] def r_SameTexts.r4 : List MOp:=[⟨some 11,.mov (.s 5),none⟩,⟨some 12,.mov (.s 0),none⟩,⟨some 13,.len false (.s 12),none⟩,⟨some 14,.bin .lss (.s 11) (.s 13),none⟩]
@[reducible] def r_SameTexts.r5 : List MOp:=[⟨some 15,.mov (.s 5),none⟩,⟨some 16,.bin .add (.s 15) (.c (.int .i64 1)),none⟩,⟨some 5,.mov (.s 16),none⟩]
@[reducible] def r_SameTexts.r6 : List MOp:=[⟨some 17,.mov (.s 0),none⟩,⟨some 18,.mov (.s 5),none⟩,⟨some 19,.sidx false tS (.s 17) (.s 18),none⟩,⟨some 20,.load false none tS (.s 19),none⟩,⟨some 21,.mov (.s 1),none⟩,⟨some 22,.mov (.s 5),none⟩,⟨some 23,.sidx false tS (.s 21) (.s 22),none⟩,⟨some 24,.load false none tS (.s 23),none⟩,⟨some 25,.bin .neq (.s 20) (.s 24),none⟩]
@[reducible] def r_SameTexts.r7 : List MOp:=[⟨some 4,.mov (.c (.bool false)),none⟩]
@[reducible] def r_SameTexts.r8 : List MOp:=[⟨some 4,.mov (.c (.bool true)),none⟩]
@[reducible] def r_SameTexts.body : MC:=(.seq (.reg false r_SameTexts.r0 [4]) (.seq (.seq (.reg false r_SameTexts.r1 [6,7,8,9]) (.cond (.s 10) (.seq (.reg false r_SameTexts.r2 []) .ret) .skip)) (.seq (.seq (.reg false r_SameTexts.r3 []) (.block 0 (.loop [0,1,5] [] (.seq (.seq (.reg false r_SameTexts.r4 [11,12,13]) (.cond (.s 14) .skip (.exit 0))) (.seq (.block 1 (.seq (.reg true r_SameTexts.r6 [17,18,19,20,21,22,23,24]) (.cond (.s 25) (.seq (.reg false r_SameTexts.r7 []) .ret) .skip))) (.reg false r_SameTexts.r5 [15,16])))))) (.seq (.reg false r_SameTexts.r8 []) .ret))))
@[reducible] def r_SameTexts : MFun:={ params:=2,nfree:=0,res:=[.tmp 4],body:=r_SameTexts.body }
@[reducible] def w_greatSteps.r0 : List MOp:=[⟨some 2,.mov (.c (.bool false)),none⟩]
@[reducible] def w_greatSteps.r1 : List MOp:=[⟨some 3,.mov (.c (.int .i64 0)),none⟩]
@[reducible] def w_greatSteps.r2 : List MOp:=[⟨some 4,.mov (.s 3),none⟩,⟨some 5,.mov (.s 0),none⟩,⟨some 6,.len false (.s 5),none⟩,⟨some 7,.bin .lss (.s 4) (.s 6),none⟩,⟨some 8,.mov (.s 7),none⟩,⟨some 9,.mov (.s 3),some (8,true)⟩,⟨some 10,.bin .lss (.s 9) (.c (.int .i64 300)),some (8,true)⟩,⟨some 11,.pick (.s 8) (.s 10) (.c (.bool false)),none⟩]
@[reducible] def w_greatSteps.r3 : List MOp:=[⟨some 12,.mov (.s 3),none⟩,⟨some 13,.bin .add (.s 12) (.c (.int .i64 1)),none⟩,⟨some 3,.mov (.s 13),none⟩]
@[reducible] def w_greatSteps.r4 : List MOp:=[⟨some 14,.mov (.s 0),none⟩,⟨some 15,.mov (.s 3),none⟩,⟨some 16,.sidx false tStep (.s 14) (.s 15),none⟩,⟨some 17,.load false none tStep (.s 16),none⟩,⟨some 18,.call false [] 229 [(.s 17)],none⟩]
@[reducible] def w_greatSteps.r5 : List MOp:=[⟨some 2,.mov (.c (.bool true)),none⟩]
@[reducible] def w_greatSteps.r6 : List MOp:=[⟨some 19,.mov (.s 0),none⟩,⟨some 20,.len false (.s 19),none⟩,⟨some 21,.bin .gtr (.s 20) (.c (.int .i64 200)),none⟩,⟨some 2,.mov (.s 21),none⟩]
@[reducible] def w_greatSteps.body : MC:=(.seq (.reg false w_greatSteps.r0 [2]) (.seq (.seq (.reg false w_greatSteps.r1 []) (.block 0 (.loop [0,3] [] (.seq (.seq (.reg false w_greatSteps.r2 [4,5,6,7,8,9,10]) (.cond (.s 11) .skip (.exit 0))) (.seq (.block 1 (.seq (.reg false w_greatSteps.r4 [14,15,16,17]) (.cond (.s 18) (.seq (.reg false w_greatSteps.r5 []) .ret) .skip))) (.reg false w_greatSteps.r3 [12,13])))))) (.seq (.reg false w_greatSteps.r6 [0,19,20,21]) .ret)))
@[reducible] def w_greatSteps : MFun:={ params:=1,nfree:=0,res:=[.tmp 2],body:=w_greatSteps.body }
@[reducible] def w_greatStep.r0 : List MOp:=[⟨some 1,.box false tStep (.s 0),none⟩,⟨some 2,.mov (.c (.bool false)),none⟩]
@[reducible] def w_greatStep.r1 : List MOp:=[⟨some 3,.fld tStep 4 tS (.s 1),none⟩,⟨some 4,.load false none tS (.s 3),none⟩,⟨some 5,.len true (.s 4),none⟩,⟨some 6,.fld tStep 5 tS (.s 1),none⟩,⟨some 7,.load false none tS (.s 6),none⟩,⟨some 8,.len true (.s 7),none⟩,⟨some 9,.bin .add (.s 5) (.s 8),none⟩,⟨some 10,.fld tStep 6 tS (.s 1),none⟩,⟨some 11,.load false none tS (.s 10),none⟩,⟨some 12,.len true (.s 11),none⟩,⟨some 13,.bin .add (.s 9) (.s 12),none⟩,⟨some 14,.bin .gtr (.s 13) (.c (.int .i64 300)),none⟩,⟨some 2,.mov (.s 14),none⟩]
@[reducible] def w_greatStep.body : MC:=(.seq (.reg false w_greatStep.r0 [0,2]) (.seq (.reg false w_greatStep.r1 [1,3,4,5,6,7,8,9,10,11,12,13,14]) .ret))
@[reducible] def w_greatStep : MFun:={ params:=1,nfree:=0,res:=[.tmp 2],body:=w_greatStep.body }
@[reducible] def ideal_check.r0 : List MOp:=[⟨some 4,.mov (.c (.int .i64 0)),none⟩]
@[reducible] def ideal_check.r1 : List MOp:=[⟨some 6,.mov (.s 0),none⟩,⟨some 7,.bin .lss (.s 6) (.c (.int .i64 0)),none⟩,⟨some 8,.mov (.s 7),none⟩,⟨some 9,.mov (.s 0),some (8,false)⟩,⟨some 10,.bin .geq (.s 9) (.c (.int .i64 3)),some (8,false)⟩,⟨some 11,.pick (.s 8) (.c (.bool true)) (.s 10),none⟩,⟨some 5,.mov (.s 11),none⟩]
@[reducible] def ideal_check.r2 : List MOp:=[⟨some 4,.mov (.c (.int .i64 1)),none⟩]
@[reducible] def ideal_check.r3 : List MOp:=[⟨some 13,.mov (.s 1),none⟩,⟨some 14,.call false [] 14 [(.s 13)],none⟩,⟨some 15,.un .not (.s 14),none⟩,⟨some 12,.mov (.s 15),none⟩]
@[reducible] def ideal_check.r4 : List MOp:=[⟨some 4,.mov (.c (.int .i64 2)),none⟩]
@[reducible] def ideal_check.r5 : List MOp:=[⟨some 4,.mov (.c (.int .i64 0)),none⟩]
@[reducible] def ideal_check.body : MC:=(.seq (.reg false ideal_check.r0 [4]) (.seq (.block 0 (.seq (.reg false ideal_check.r1 [0,6,7,8,9,10,11]) (.cond (.s 5) (.seq (.reg false ideal_check.r2 []) .ret) (.seq (.reg false ideal_check.r3 [1,13,14,15]) (.cond (.s 12) (.seq (.reg false ideal_check.r4 []) .ret) .skip))))) (.seq (.reg false ideal_check.r5 []) .ret)))
@[reducible] def ideal_check : MFun:={ params:=2,nfree:=0,res:=[.tmp 4],body:=ideal_check.body }
@[reducible] def slices_SortFunc.r0 : List MOp:=[⟨some 5,.mov (.s 0),none⟩,⟨some 6,.len false (.s 5),none⟩,⟨some 4,.mov (.s 6),none⟩]
@[reducible] def slices_SortFunc.r1 : List MOp:=[⟨some 7,.mov (.s 0),none⟩,⟨some 8,.mov (.s 4),none⟩,⟨some 9,.mov (.s 4),none⟩,⟨some 10,.conv .u64 (.s 9),none⟩,⟨some 11,.call false [] 240 [(.s 10)],none⟩,⟨some 12,.mov (.s 1),none⟩,⟨some 13,.call false [] 241 [(.s 7),(.c (.int .i64 0)),(.s 8),(.s 11),(.s 12)],none⟩]
@[reducible] def slices_SortFunc.body : MC:=(.seq (.reg false slices_SortFunc.r0 [5,6]) (.reg false slices_SortFunc.r1 [0,1,4,7,8,9,10,11,12,13]))
@[reducible] def slices_SortFunc : MFun:={ params:=2,nfree:=0,res:=[],body:=slices_SortFunc.body }
@[reducible] def math_bits_Len.r0 : List MOp:=[⟨some 2,.mov (.c (.int .i64 0)),none⟩]
@[reducible] def math_bits_Len.r1 : List MOp:=[⟨some 3,.mov (.s 0),none⟩,⟨some 4,.conv .u32 (.s 3),none⟩,⟨some 5,.call false [] 253 [(.s 4)],none⟩,⟨some 2,.mov (.s 5),none⟩]
@[reducible] def math_bits_Len.r2 : List MOp:=[⟨some 6,.mov (.s 0),none⟩,⟨some 7,.call false [] 252 [(.s 6)],none⟩,⟨some 2,.mov (.s 7),none⟩]
@[reducible] def math_bits_Len.body : MC:=(.seq (.reg false math_bits_Len.r0 [2]) (.seq (.cond (.c (.bool false)) (.seq (.reg false math_bits_Len.r1 [0,3,4,5]) .ret) .skip) (.seq (.reg false math_bits_Len.r2 [0,6,7]) .ret)))
@[reducible] def math_bits_Len : MFun:={ params:=1,nfree:=0,res:=[.tmp 2],body:=math_bits_Len.body }
@[reducible] def slices_pdqsortCmpFunc.r0 : List MOp:=[⟨some 10,.mov (.c (.bool true)),none⟩]
@[reducible] def slices_pdqsortCmpFunc.r1 : List MOp:=[⟨some 11,.mov (.c (.bool true)),none⟩]
@[reducible] def slices_pdqsortCmpFunc.r2 : List MOp:=[⟨some 21,.mov (.s 2),none⟩,⟨some 22,.mov (.s 1),none⟩,⟨some 23,.bin .sub (.s 21) (.s 22),none⟩,⟨some 12,.mov (.s 23),none⟩]
@[reducible] def slices_pdqsortCmpFunc.r3 : List MOp:=[⟨some 24,.mov (.s 12),none⟩,⟨some 25,.bin .leq (.s 24) (.c (.int .i64 12)),none⟩]
@[reducible] def slices_pdqsortCmpFunc.r4 : List MOp:=[⟨some 26,.mov (.s 0),none⟩,⟨some 27,.mov (.s 1),none⟩,⟨some 28,.mov (.s 2),none⟩,⟨some 29,.mov (.s 4),none⟩,⟨some 30,.call false [] 251 [(.s 26),(.s 27),(.s 28),(.s 29)],none⟩]
@[reducible] def slices_pdqsortCmpFunc.r5 : List MOp:=[⟨some 31,.mov (.s 3),none⟩,⟨some 32,.bin .eql (.s 31) (.c (.int .i64 0)),none⟩]
@[reducible] def slices_pdqsortCmpFunc.r6 : List MOp:=[⟨some 33,.mov (.s 0),none⟩,⟨some 34,.mov (.s 1),none⟩,⟨some 35,.mov (.s 2),none⟩,⟨some 36,.mov (.s 4),none⟩,⟨some 37,.call false [] 250 [(.s 33),(.s 34),(.s 35),(.s 36)],none⟩]
@[reducible] def slices_pdqsortCmpFunc.r7 : List MOp:=[⟨some 38,.mov (.s 10),none⟩,⟨some 39,.un .not (.s 38),none⟩]
@[reducible] def slices_pdqsortCmpFunc.r8 : List MOp:=[⟨some 40,.mov (.s 0),none⟩,⟨some 41,.mov (.s 1),none⟩,⟨some 42,.mov (.s 2),none⟩,⟨some 43,.mov (.s 4),none⟩,⟨some 44,.call false [] 249 [(.s 40),(.s 41),(.s 42),(.s 43)],none⟩]
@[reducible] def slices_pdqsortCmpFunc.r9 : List MOp:=[⟨some 45,.mov (.s 3),none⟩,⟨some 46,.bin .sub (.s 45) (.c (.int .i64 1)),none⟩,⟨some 3,.mov (.s 46),none⟩]
@[reducible] def slices_pdqsortCmpFunc.r10 : List MOp:=[⟨some 48,.mov (.s 0),none⟩,⟨some 49,.mov (.s 1),none⟩,⟨some 50,.mov (.s 2),none⟩,⟨some 51,.mov (.s 4),none⟩,⟨some 52,.call false [] 248 [(.s 48),(.s 49),(.s 50),(.s 51)],none⟩,⟨some 47,.mov (.s 52),none⟩,⟨some 53,.ext (.s 47) 0,none⟩,⟨some 54,.ext (.s 47) 1,none⟩,⟨some 13,.mov (.s 53),none⟩,⟨some 14,.mov (.s 54),none⟩]
@[reducible] def slices_pdqsortCmpFunc.r11 : List MOp:=[⟨some 55,.mov (.s 14),none⟩,⟨some 56,.bin .eql (.s 55) (.c (.int .i64 2)),none⟩]
@[reducible] def slices_pdqsortCmpFunc.r12 : List MOp:=[⟨some 57,.mov (.s 0),none⟩,⟨some 58,.mov (.s 1),none⟩,⟨some 59,.mov (.s 2),none⟩,⟨some 60,.mov (.s 4),none⟩,⟨some 61,.call false [] 247 [(.s 57),(.s 58),(.s 59),(.s 60)],none⟩]
@[reducible] def slices_pdqsortCmpFunc.r13 : List MOp:=[⟨some 62,.mov (.s 2),none⟩,⟨some 63,.bin .sub (.s 62) (.c (.int .i64 1)),none⟩,⟨some 64,.mov (.s 13),none⟩,⟨some 65,.mov (.s 1),none⟩,⟨some 66,.bin .sub (.s 64) (.s 65),none⟩,⟨some 67,.bin .sub (.s 63) (.s 66),none⟩,⟨some 13,.mov (.s 67),none⟩]
@[reducible] def slices_pdqsortCmpFunc.r14 : List MOp:=[⟨some 14,.mov (.c (.int .i64 1)),none⟩]
@[reducible] def slices_pdqsortCmpFunc.r15 : List MOp:=[⟨some 68,.mov (.s 10),none⟩,⟨some 69,.mov (.s 68),none⟩,⟨some 70,.mov (.s 11),some (69,true)⟩,⟨some 71,.pick (.s 69) (.s 70) (.c (.bool false)),none⟩,⟨some 72,.mov (.s 71),none⟩,⟨some 73,.mov (.s 14),some (72,true)⟩,⟨some 74,.bin .eql (.s 73) (.c (.int .i64 1)),some (72,true)⟩,⟨some 75,.pick (.s 72) (.s 74) (.c (.bool false)),none⟩]
@[reducible] def slices_pdqsortCmpFunc.r16 : List MOp:=[⟨some 76,.mov (.s 0),none⟩,⟨some 77,.mov (.s 1),none⟩,⟨some 78,.mov (.s 2),none⟩,⟨some 79,.mov (.s 4),none⟩,⟨some 80,.call false [] 246 [(.s 76),(.s 77),(.s 78),(.s 79)],none⟩]
@[reducible] def slices_pdqsortCmpFunc.r17 : List MOp:=[⟨some 81,.mov (.s 1),none⟩,⟨some 82,.bin .gtr (.s 81) (.c (.int .i64 0)),none⟩,⟨some 83,.mov (.s 82),none⟩,⟨some 84,.mov (.s 4),some (83,true)⟩,⟨some 85,.mov (.s 0),some (83,true)⟩,⟨some 86,.mov (.s 1),some (83,true)⟩,⟨some 87,.bin .sub (.s 86) (.c (.int .i64 1)),some (83,true)⟩,⟨some 88,.sidx false tS (.s 85) (.s 87),some (83,true)⟩,⟨some 89,.load false none tS (.s 88),some (83,true)⟩,⟨some 90,.mov (.s 0),some (83,true)⟩,⟨some 91,.mov (.s 13),some (83,true)⟩,⟨some 92,.sidx false tS (.s 90) (.s 91),some (83,true)⟩,⟨some 93,.load false none tS (.s 92),some (83,true)⟩,⟨some 94,.callv false [] (.s 84) [(.s 89),(.s 93)],some (83,true)⟩,⟨some 95,.bin .lss (.s 94) (.c (.int .i64 0)),some (83,true)⟩,⟨some 96,.un .not (.s 95),some (83,true)⟩,⟨some 97,.pick (.s 83) (.s 96) (.c (.bool false)),none⟩]
@[reducible] def slices_pdqsortCmpFunc.r18 : List MOp:=[⟨some 98,.mov (.s 0),none⟩,⟨some 99,.mov (.s 1),none⟩,⟨some 100,.mov (.s 2),none⟩,⟨some 101,.mov (.s 13),none⟩,⟨some 102,.mov (.s 4),none⟩,⟨some 103,.call false [] 245 [(.s 98),(.s 99),(.s 100),(.s 101),(.s 102)],none⟩,⟨some 15,.mov (.s 103),none⟩]
@[reducible] def slices_pdqsortCmpFunc.r19 : List MOp:=[⟨some 104,.mov (.s 15),none⟩,⟨some 1,.mov (.s 104),none⟩]
@[reducible] def slices_pdqsortCmpFunc.r20 : List MOp:=[⟨some 106,.mov (.s 0),none⟩,⟨some 107,.mov (.s 1),none⟩,⟨some 108,.mov (.s 2),none⟩,⟨some 109,.mov (.s 13),none⟩,⟨some 110,.mov (.s 4),none⟩,⟨some 111,.call false [] 244 [(.s 106),(.s 107),(.s 108),(.s 109),(.s 110)],none⟩,⟨some 105,.mov (.s 111),none⟩,⟨some 112,.ext (.s 105) 0,none⟩,⟨some 113,.ext (.s 105) 1,none⟩,⟨some 16,.mov (.s 112),none⟩,⟨some 17,.mov (.s 113),none⟩]
@[reducible] def slices_pdqsortCmpFunc.r21 : List MOp:=[⟨some 114,.mov (.s 17),none⟩,⟨some 11,.mov (.s 114),none⟩]
@[reducible] def slices_pdqsortCmpFunc.r22 : List MOp:=[⟨some 115,.mov (.s 16),none⟩,⟨some 116,.mov (.s 1),none⟩,⟨some 117,.bin .sub (.s 115) (.s 116),none⟩,⟨some 118,.mov (.s 2),none⟩,⟨some 119,.mov (.s 16),none⟩,⟨some 120,.bin .sub (.s 118) (.s 119),none⟩,⟨some 18,.mov (.s 117),none⟩,⟨some 19,.mov (.s 120),none⟩]
@[reducible] def slices_pdqsortCmpFunc.r23 : List MOp:=[⟨some 121,.mov (.s 12),none⟩,⟨some 122,.bin .quo (.s 121) (.c (.int .i64 8)),none⟩,⟨some 20,.mov (.s 122),none⟩]
@[reducible] def slices_pdqsortCmpFunc.r24 : List MOp:=[⟨some 123,.mov (.s 18),none⟩,⟨some 124,.mov (.s 19),none⟩,⟨some 125,.bin .lss (.s 123) (.s 124),none⟩]
@[reducible] def slices_pdqsortCmpFunc.r25 : List MOp:=[⟨some 126,.mov (.s 18),none⟩,⟨some 127,.mov (.s 20),none⟩,⟨some 128,.bin .geq (.s 126) (.s 127),none⟩,⟨some 10,.mov (.s 128),none⟩]
@[reducible] def slices_pdqsortCmpFunc.r26 : List MOp:=[⟨some 129,.mov (.s 0),none⟩,⟨some 130,.mov (.s 1),none⟩,⟨some 131,.mov (.s 16),none⟩,⟨some 132,.mov (.s 3),none⟩,⟨some 133,.mov (.s 4),none⟩,⟨some 134,.call false [] 241 [(.s 129),(.s 130),(.s 131),(.s 132),(.s 133)],none⟩]
@[reducible] def slices_pdqsortCmpFunc.r27 : List MOp:=[⟨some 135,.mov (.s 16),none⟩,⟨some 136,.bin .add (.s 135) (.c (.int .i64 1)),none⟩,⟨some 1,.mov (.s 136),none⟩]
@[reducible] def slices_pdqsortCmpFunc.r28 : List MOp:=[⟨some 137,.mov (.s 19),none⟩,⟨some 138,.mov (.s 20),none⟩,⟨some 139,.bin .geq (.s 137) (.s 138),none⟩,⟨some 10,.mov (.s 139),none⟩]
@[reducible] def slices_pdqsortCmpFunc.r29 : List MOp:=[⟨some 140,.mov (.s 0),none⟩,⟨some 141,.mov (.s 16),none⟩,⟨some 142,.bin .add (.s 141) (.c (.int .i64 1)),none⟩,⟨some 143,.mov (.s 2),none⟩,⟨some 144,.mov (.s 3),none⟩,⟨some 145,.mov (.s 4),none⟩,⟨some 146,.call false [] 241 [(.s 140),(.s 142),(.s 143),(.s 144),(.s 145)],none⟩]
@[reducible] def slices_pdqsortCmpFunc.r30 : List MOp:=[⟨some 147,.mov (.s 16),none⟩,⟨some 2,.mov (.s 147),none⟩]
@[reducible] def slices_pdqsortCmpFunc.body : MC:=(.seq (.reg false slices_pdqsortCmpFunc.r0 []) (.seq (.reg false slices_pdqsortCmpFunc.r1 []) (.block 0 (.loop [0,1,2,3,4,10,11] [] (.block 1 (.seq (.reg false slices_pdqsortCmpFunc.r2 [21,22,23]) (.seq (.seq (.reg false slices_pdqsortCmpFunc.r3 [24]) (.cond (.s 25) (.seq (.reg false slices_pdqsortCmpFunc.r4 [0,1,2,4,26,27,28,29,30]) .ret) .skip)) (.seq (.seq (.reg false slices_pdqsortCmpFunc.r5 [31]) (.cond (.s 32) (.seq (.reg false slices_pdqsortCmpFunc.r6 [0,1,2,4,33,34,35,36,37]) .ret) .skip)) (.seq (.seq (.reg false slices_pdqsortCmpFunc.r7 [38]) (.cond (.s 39) (.seq (.reg false slices_pdqsortCmpFunc.r8 [40,41,42,43,44]) (.reg false slices_pdqsortCmpFunc.r9 [45,46])) .skip)) (.seq (.reg false slices_pdqsortCmpFunc.r10 [47,48,49,50,51,52,53,54]) (.seq (.seq (.reg false slices_pdqsortCmpFunc.r11 [55]) (.cond (.s 56) (.seq (.reg false slices_pdqsortCmpFunc.r12 [57,58,59,60,61]) (.seq (.reg false slices_pdqsortCmpFunc.r13 [62,63,64,65,66,67]) (.reg false slices_pdqsortCmpFunc.r14 []))) .skip)) (.seq (.seq (.reg false slices_pdqsortCmpFunc.r15 [14,68,69,70,71,72,73,74]) (.cond (.s 75) (.seq (.reg false slices_pdqsortCmpFunc.r16 [76,77,78,79]) (.cond (.s 80) .ret .skip)) .skip)) (.seq (.seq (.reg true slices_pdqsortCmpFunc.r17 [81,82,83,84,85,86,87,88,89,90,91,92,93,94,95,96]) (.cond (.s 97) (.seq (.reg false slices_pdqsortCmpFunc.r18 [1,13,98,99,100,101,102,103]) (.seq (.reg false slices_pdqsortCmpFunc.r19 [15,104]) (.exit 1))) .skip)) (.seq (.reg false slices_pdqsortCmpFunc.r20 [13,105,106,107,108,109,110,111,112,113]) (.seq (.reg false slices_pdqsortCmpFunc.r21 [17,114]) (.seq (.reg false slices_pdqsortCmpFunc.r22 [115,116,117,118,119,120]) (.seq (.reg false slices_pdqsortCmpFunc.r23 [12,121,122]) (.seq (.reg false slices_pdqsortCmpFunc.r24 [123,124]) (.cond (.s 125) (.seq (.reg false slices_pdqsortCmpFunc.r25 [18,20,126,127,128]) (.seq (.reg false slices_pdqsortCmpFunc.r26 [1,129,130,131,132,133,134]) (.reg false slices_pdqsortCmpFunc.r27 [16,135,136]))) (.seq (.reg false slices_pdqsortCmpFunc.r28 [19,20,137,138,139]) (.seq (.reg false slices_pdqsortCmpFunc.r29 [2,140,141,142,143,144,145,146]) (.reg false slices_pdqsortCmpFunc.r30 [16,147]))))))))))))))))))))))
@[reducible] def slices_pdqsortCmpFunc : MFun:={ params:=5,nfree:=0,res:=[],body:=slices_pdqsortCmpFunc.body }
@[reducible] def cmp_Compare.r0 : List MOp:=[⟨some 4,.mov (.c (.int .i64 0)),none⟩]
@[reducible] def cmp_Compare.r1 : List MOp:=[⟨some 7,.mov (.s 0),none⟩,⟨some 8,.call false [] 243 [(.s 7)],none⟩,⟨some 5,.mov (.s 8),none⟩]
@[reducible] def cmp_Compare.r2 : List MOp:=[⟨some 9,.mov (.s 1),none⟩,⟨some 10,.call false [] 243 [(.s 9)],none⟩,⟨some 6,.mov (.s 10),none⟩]
@[reducible] def cmp_Compare.r3 : List MOp:=[⟨some 11,.mov (.s 5),none⟩]
@[reducible] def cmp_Compare.r4 : List MOp:=[⟨some 12,.mov (.s 6),none⟩]
@[reducible] def cmp_Compare.r5 : List MOp:=[⟨some 4,.mov (.c (.int .i64 0)),none⟩]
@[reducible] def cmp_Compare.r6 : List MOp:=[⟨some 4,.mov (.c (.int .i64 (-1))),none⟩]
@[reducible] def cmp_Compare.r7 : List MOp:=[⟨some 13,.mov (.s 6),none⟩]
@[reducible] def cmp_Compare.r8 : List MOp:=[⟨some 4,.mov (.c (.int .i64 1)),none⟩]
@[reducible] def cmp_Compare.r9 : List MOp:=[⟨some 14,.mov (.s 0),none⟩,⟨some 15,.mov (.s 1),none⟩,⟨some 16,.bin .lss (.s 14) (.s 15),none⟩]
@[reducible] def cmp_Compare.r10 : List MOp:=[⟨some 4,.mov (.c (.int .i64 (-1))),none⟩]
@[reducible] def cmp_Compare.r11 : List MOp:=[⟨some 17,.mov (.s 0),none⟩,⟨some 18,.mov (.s 1),none⟩,⟨some 19,.bin .gtr (.s 17) (.s 18),none⟩]
@[reducible] def cmp_Compare.r12 : List MOp:=[⟨some 4,.mov (.c (.int .i64 1)),none⟩]
@[reducible] def cmp_Compare.r13 : List MOp:=[⟨some 4,.mov (.c (.int .i64 0)),none⟩]
@[reducible] def cmp_Compare.body : MC:=(.seq (.reg false cmp_Compare.r0 [4]) (.seq (.reg false cmp_Compare.r1 [7,8]) (.seq (.reg false cmp_Compare.r2 [9,10]) (.seq (.seq (.reg false cmp_Compare.r3 [5]) (.cond (.s 11) (.seq (.seq (.reg false cmp_Compare.r4 [6]) (.cond (.s 12) (.seq (.reg false cmp_Compare.r5 []) .ret) .skip)) (.seq (.reg false cmp_Compare.r6 []) .ret)) .skip)) (.seq (.seq (.reg false cmp_Compare.r7 [6]) (.cond (.s 13) (.seq (.reg false cmp_Compare.r8 []) .ret) .skip)) (.seq (.seq (.reg false cmp_Compare.r9 [14,15]) (.cond (.s 16) (.seq (.reg false cmp_Compare.r10 []) .ret) .skip)) (.seq (.seq (.reg false cmp_Compare.r11 [0,1,17,18]) (.cond (.s 19) (.seq (.reg false cmp_Compare.r12 []) .ret) .skip)) (.seq (.reg false cmp_Compare.r13 []) .ret))))))))
@[reducible] def cmp_Compare : MFun:={ params:=2,nfree:=0,res:=[.tmp 4],body:=cmp_Compare.body }
@[reducible] def cmp_isNaN.r0 : List MOp:=[⟨some 2,.mov (.c (.bool false)),none⟩]
@[reducible] def cmp_isNaN.r1 : List MOp:=[⟨some 3,.mov (.s 0),none⟩,⟨some 4,.mov (.s 0),none⟩,⟨some 5,.bin .neq (.s 3) (.s 4),none⟩,⟨some 2,.mov (.s 5),none⟩]
@[reducible] def cmp_isNaN.body : MC:=(.seq (.reg false cmp_isNaN.r0 [2]) (.seq (.reg false cmp_isNaN.r1 [0,3,4,5]) .ret))
@[reducible] def cmp_isNaN : MFun:={ params:=1,nfree:=0,res:=[.tmp 2],body:=cmp_isNaN.body }
@[reducible] def slices_partitionCmpFunc.r0 : List MOp:=[⟨some 10,.mov (.c (.int .i64 0)),none⟩,⟨some 11,.mov (.c (.bool false)),none⟩]
@[reducible] def slices_partitionCmpFunc.r1 : List MOp:=[⟨some 14,.mov (.s 0),none⟩,⟨some 15,.mov (.s 1),none⟩,⟨some 16,.mov (.s 0),none⟩,⟨some 17,.mov (.s 3),none⟩,⟨some 18,.mov (.s 0),none⟩,⟨some 19,.mov (.s 3),none⟩,⟨some 20,.sidx false tS (.s 18) (.s 19),none⟩,⟨some 21,.load false none tS (.s 20),none⟩,⟨some 22,.mov (.s 0),none⟩,⟨some 23,.mov (.s 1),none⟩,⟨some 24,.sidx false tS (.s 22) (.s 23),none⟩,⟨some 25,.load false none tS (.s 24),none⟩,⟨some 26,.sidx false tS (.s 14) (.s 15),none⟩,⟨none,.store tS [] (.s 26) (.s 21),none⟩,⟨some 27,.sidx false tS (.s 16) (.s 17),none⟩,⟨none,.store tS [] (.s 27) (.s 25),none⟩]
@[reducible] def slices_partitionCmpFunc.r2 : List MOp:=[⟨some 28,.mov (.s 1),none⟩,⟨some 29,.bin .add (.s 28) (.c (.int .i64 1)),none⟩,⟨some 30,.mov (.s 2),none⟩,⟨some 31,.bin .sub (.s 30) (.c (.int .i64 1)),none⟩,⟨some 12,.mov (.s 29),none⟩,⟨some 13,.mov (.s 31),none⟩]
@[reducible] def slices_partitionCmpFunc.r3 : List MOp:=[⟨some 32,.mov (.s 12),none⟩,⟨some 33,.mov (.s 13),none⟩,⟨some 34,.bin .leq (.s 32) (.s 33),none⟩,⟨some 35,.mov (.s 34),none⟩,⟨some 36,.mov (.s 4),some (35,true)⟩,⟨some 37,.mov (.s 0),some (35,true)⟩,⟨some 38,.mov (.s 12),some (35,true)⟩,⟨some 39,.sidx false tS (.s 37) (.s 38),some (35,true)⟩,⟨some 40,.load false none tS (.s 39),some (35,true)⟩,⟨some 41,.mov (.s 0),some (35,true)⟩,⟨some 42,.mov (.s 1),some (35,true)⟩,⟨some 43,.sidx false tS (.s 41) (.s 42),some (35,true)⟩,⟨some 44,.load false none tS (.s 43),some (35,true)⟩,⟨some 45,.callv false [] (.s 36) [(.s 40),(.s 44)],some (35,true)⟩,⟨some 46,.bin .lss (.s 45) (.c (.int .i64 0)),some (35,true)⟩,⟨some 47,.pick (.s 35) (.s 46) (.c (.bool false)),none⟩]
@[reducible] def slices_partitionCmpFunc.r4 : List MOp:=[⟨some 48,.mov (.s 12),none⟩,⟨some 49,.bin .add (.s 48) (.c (.int .i64 1)),none⟩,⟨some 12,.mov (.s 49),none⟩]
@[reducible] def slices_partitionCmpFunc.r5 : List MOp:=[⟨some 50,.mov (.s 12),none⟩,⟨some 51,.mov (.s 13),none⟩,⟨some 52,.bin .leq (.s 50) (.s 51),none⟩,⟨some 53,.mov (.s 52),none⟩,⟨some 54,.mov (.s 4),some (53,true)⟩,⟨some 55,.mov (.s 0),some (53,true)⟩,⟨some 56,.mov (.s 13),some (53,true)⟩,⟨some 57,.sidx false tS (.s 55) (.s 56),some (53,true)⟩,⟨some 58,.load false none tS (.s 57),some (53,true)⟩,⟨some 59,.mov (.s 0),some (53,true)⟩,⟨some 60,.mov (.s 1),some (53,true)⟩,⟨some 61,.sidx false tS (.s 59) (.s 60),some (53,true)⟩,⟨some 62,.load false none tS (.s 61),some (53,true)⟩,⟨some 63,.callv false [] (.s 54) [(.s 58),(.s 62)],some (53,true)⟩,⟨some 64,.bin .lss (.s 63) (.c (.int .i64 0)),some (53,true)⟩,⟨some 65,.un .not (.s 64),some (53,true)⟩,⟨some 66,.pick (.s 53) (.s 65) (.c (.bool false)),none⟩]
@[reducible] def slices_partitionCmpFunc.r6 : List MOp:=[⟨some 67,.mov (.s 13),none⟩,⟨some 68,.bin .sub (.s 67) (.c (.int .i64 1)),none⟩,⟨some 13,.mov (.s 68),none⟩]
@[reducible] def slices_partitionCmpFunc.r7 : List MOp:=[⟨some 69,.mov (.s 12),none⟩,⟨some 70,.mov (.s 13),none⟩,⟨some 71,.bin .gtr (.s 69) (.s 70),none⟩]
@[reducible] def slices_partitionCmpFunc.r8 : List MOp:=[⟨some 72,.mov (.s 0),none⟩,⟨some 73,.mov (.s 13),none⟩,⟨some 74,.mov (.s 0),none⟩,⟨some 75,.mov (.s 1),none⟩,⟨some 76,.mov (.s 0),none⟩,⟨some 77,.mov (.s 1),none⟩,⟨some 78,.sidx false tS (.s 76) (.s 77),none⟩,⟨some 79,.load false none tS (.s 78),none⟩,⟨some 80,.mov (.s 0),none⟩,⟨some 81,.mov (.s 13),none⟩,⟨some 82,.sidx false tS (.s 80) (.s 81),none⟩,⟨some 83,.load false none tS (.s 82),none⟩,⟨some 84,.sidx false tS (.s 72) (.s 73),none⟩,⟨none,.store tS [] (.s 84) (.s 79),none⟩,⟨some 85,.sidx false tS (.s 74) (.s 75),none⟩,⟨none,.store tS [] (.s 85) (.s 83),none⟩]
@[reducible] def slices_partitionCmpFunc.r9 : List MOp:=[⟨some 86,.mov (.s 13),none⟩,⟨some 10,.mov (.s 86),none⟩,⟨some 11,.mov (.c (.bool true)),none⟩]
@[reducible] def slices_partitionCmpFunc.r10 : List MOp:=[⟨some 87,.mov (.s 0),none⟩,⟨some 88,.mov (.s 12),none⟩,⟨some 89,.mov (.s 0),none⟩,⟨some 90,.mov (.s 13),none⟩,⟨some 91,.mov (.s 0),none⟩,⟨some 92,.mov (.s 13),none⟩,⟨some 93,.sidx false tS (.s 91) (.s 92),none⟩,⟨some 94,.load false none tS (.s 93),none⟩,⟨some 95,.mov (.s 0),none⟩,⟨some 96,.mov (.s 12),none⟩,⟨some 97,.sidx false tS (.s 95) (.s 96),none⟩,⟨some 98,.load false none tS (.s 97),none⟩,⟨some 99,.sidx false tS (.s 87) (.s 88),none⟩,⟨none,.store tS [] (.s 99) (.s 94),none⟩,⟨some 100,.sidx false tS (.s 89) (.s 90),none⟩,⟨none,.store tS [] (.s 100) (.s 98),none⟩]
@[reducible] def slices_partitionCmpFunc.r11 : List MOp:=[⟨some 101,.mov (.s 12),none⟩,⟨some 102,.bin .add (.s 101) (.c (.int .i64 1)),none⟩,⟨some 12,.mov (.s 102),none⟩]
@[reducible] def slices_partitionCmpFunc.r12 : List MOp:=[⟨some 103,.mov (.s 13),none⟩,⟨some 104,.bin .sub (.s 103) (.c (.int .i64 1)),none⟩,⟨some 13,.mov (.s 104),none⟩]
@[reducible] def slices_partitionCmpFunc.r13 : List MOp:=[⟨some 105,.mov (.s 12),none⟩,⟨some 106,.mov (.s 13),none⟩,⟨some 107,.bin .leq (.s 105) (.s 106),none⟩,⟨some 108,.mov (.s 107),none⟩,⟨some 109,.mov (.s 4),some (108,true)⟩,⟨some 110,.mov (.s 0),some (108,true)⟩,⟨some 111,.mov (.s 12),some (108,true)⟩,⟨some 112,.sidx false tS (.s 110) (.s 111),some (108,true)⟩,⟨some 113,.load false none tS (.s 112),some (108,true)⟩,⟨some 114,.mov (.s 0),some (108,true)⟩,⟨some 115,.mov (.s 1),some (108,true)⟩,⟨some 116,.sidx false tS (.s 114) (.s 115),some (108,true)⟩,⟨some 117,.load false none tS (.s 116),some (108,true)⟩,⟨some 118,.callv false [] (.s 109) [(.s 113),(.s 117)],some (108,true)⟩,⟨some 119,.bin .lss (.s 118) (.c (.int .i64 0)),some (108,true)⟩,⟨some 120,.pick (.s 108) (.s 119) (.c (.bool false)),none⟩]
@[reducible] def slices_partitionCmpFunc.r14 : List MOp:=[⟨some 121,.mov (.s 12),none⟩,⟨some 122,.bin .add (.s 121) (.c (.int .i64 1)),none⟩,⟨some 12,.mov (.s 122),none⟩]
@[reducible] def slices_partitionCmpFunc.r15 : List MOp:=[⟨some 123,.mov (.s 12),none⟩,⟨some 124,.mov (.s 13),none⟩,⟨some 125,.bin .leq (.s 123) (.s 124),none⟩,⟨some 126,.mov (.s 125),none⟩,⟨some 127,.mov (.s 4),some (126,true)⟩,⟨some 128,.mov (.s 0),some (126,true)⟩,⟨some 129,.mov (.s 13),some (126,true)⟩,⟨some 130,.sidx false tS (.s 128) (.s 129),some (126,true)⟩,⟨some 131,.load false none tS (.s 130),some (126,true)⟩,⟨some 132,.mov (.s 0),some (126,true)⟩,⟨some 133,.mov (.s 1),some (126,true)⟩,⟨some 134,.sidx false tS (.s 132) (.s 133),some (126,true)⟩,⟨some 135,.load false none tS (.s 134),some (126,true)⟩,⟨some 136,.callv false [] (.s 127) [(.s 131),(.s 135)],some (126,true)⟩,⟨some 137,.bin .lss (.s 136) (.c (.int .i64 0)),some (126,true)⟩,⟨some 138,.un .not (.s 137),some (126,true)⟩,⟨some 139,.pick (.s 126) (.s 138) (.c (.bool false)),none⟩]
@[reducible] def slices_partitionCmpFunc.r16 : List MOp:=[⟨some 140,.mov (.s 13),none⟩,⟨some 141,.bin .sub (.s 140) (.c (.int .i64 1)),none⟩,⟨some 13,.mov (.s 141),none⟩]
@[reducible] def slices_partitionCmpFunc.r17 : List MOp:=[⟨some 142,.mov (.s 12),none⟩,⟨some 143,.mov (.s 13),none⟩,⟨some 144,.bin .gtr (.s 142) (.s 143),none⟩]
@[reducible] def slices_partitionCmpFunc.r18 : List MOp:=[⟨some 145,.mov (.s 0),none⟩,⟨some 146,.mov (.s 12),none⟩,⟨some 147,.mov (.s 0),none⟩,⟨some 148,.mov (.s 13),none⟩,⟨some 149,.mov (.s 0),none⟩,⟨some 150,.mov (.s 13),none⟩,⟨some 151,.sidx false tS (.s 149) (.s 150),none⟩,⟨some 152,.load false none tS (.s 151),none⟩,⟨some 153,.mov (.s 0),none⟩,⟨some 154,.mov (.s 12),none⟩,⟨some 155,.sidx false tS (.s 153) (.s 154),none⟩,⟨some 156,.load false none tS (.s 155),none⟩,⟨some 157,.sidx false tS (.s 145) (.s 146),none⟩,⟨none,.store tS [] (.s 157) (.s 152),none⟩,⟨some 158,.sidx false tS (.s 147) (.s 148),none⟩,⟨none,.store tS [] (.s 158) (.s 156),none⟩]
@[reducible] def slices_partitionCmpFunc.r19 : List MOp:=[⟨some 159,.mov (.s 12),none⟩,⟨some 160,.bin .add (.s 159) (.c (.int .i64 1)),none⟩,⟨some 12,.mov (.s 160),none⟩]
@[reducible] def slices_partitionCmpFunc.r20 : List MOp:=[⟨some 161,.mov (.s 13),none⟩,⟨some 162,.bin .sub (.s 161) (.c (.int .i64 1)),none⟩,⟨some 13,.mov (.s 162),none⟩]
@[reducible] def slices_partitionCmpFunc.r21 : List MOp:=[⟨some 163,.mov (.s 0),none⟩,⟨some 164,.mov (.s 13),none⟩,⟨some 165,.mov (.s 0),none⟩,⟨some 166,.mov (.s 1),none⟩,⟨some 167,.mov (.s 0),none⟩,⟨some 168,.mov (.s 1),none⟩,⟨some 169,.sidx false tS (.s 167) (.s 168),none⟩,⟨some 170,.load false none tS (.s 169),none⟩,⟨some 171,.mov (.s 0),none⟩,⟨some 172,.mov (.s 13),none⟩,⟨some 173,.sidx false tS (.s 171) (.s 172),none⟩,⟨some 174,.load false none tS (.s 173),none⟩,⟨some 175,.sidx false tS (.s 163) (.s 164),none⟩,⟨none,.store tS [] (.s 175) (.s 170),none⟩,⟨some 176,.sidx false tS (.s 165) (.s 166),none⟩,⟨none,.store tS [] (.s 176) (.s 174),none⟩]
@[reducible] def slices_partitionCmpFunc.r22 : List MOp:=[⟨some 177,.mov (.s 13),none⟩,⟨some 10,.mov (.s 177),none⟩,⟨some 11,.mov (.c (.bool false)),none⟩]
@[reducible] def slices_partitionCmpFunc.body : MC:=(.seq (.reg false slices_partitionCmpFunc.r0 [10,11]) (.seq (.reg true slices_partitionCmpFunc.r1 [3,14,15,16,17,18,19,20,21,22,23,24,25,26,27]) (.seq (.reg false slices_partitionCmpFunc.r2 [2,28,29,30,31]) (.seq (.block 0 (.loop [0,1,4,12,13] [] (.seq (.seq (.reg true slices_partitionCmpFunc.r3 [32,33,34,35,36,37,38,39,40,41,42,43,44,45,46]) (.cond (.s 47) .skip (.exit 0))) (.block 1 (.reg false slices_partitionCmpFunc.r4 [48,49]))))) (.seq (.block 2 (.loop [0,1,4,12,13] [] (.seq (.seq (.reg true slices_partitionCmpFunc.r5 [50,51,52,53,54,55,56,57,58,59,60,61,62,63,64,65]) (.cond (.s 66) .skip (.exit 2))) (.block 3 (.reg false slices_partitionCmpFunc.r6 [67,68]))))) (.seq (.seq (.reg false slices_partitionCmpFunc.r7 [69,70]) (.cond (.s 71) (.seq (.reg true slices_partitionCmpFunc.r8 [0,1,72,73,74,75,76,77,78,79,80,81,82,83,84,85]) (.seq (.reg false slices_partitionCmpFunc.r9 [13,86]) .ret)) .skip)) (.seq (.reg true slices_partitionCmpFunc.r10 [87,88,89,90,91,92,93,94,95,96,97,98,99,100]) (.seq (.reg false slices_partitionCmpFunc.r11 [101,102]) (.seq (.reg false slices_partitionCmpFunc.r12 [103,104]) (.seq (.block 4 (.loop [0,1,4,12,13] [] (.block 5 (.seq (.block 6 (.loop [0,1,4,12,13] [] (.seq (.seq (.reg true slices_partitionCmpFunc.r13 [105,106,107,108,109,110,111,112,113,114,115,116,117,118,119]) (.cond (.s 120) .skip (.exit 6))) (.block 7 (.reg false slices_partitionCmpFunc.r14 [121,122]))))) (.seq (.block 8 (.loop [0,1,4,12,13] [] (.seq (.seq (.reg true slices_partitionCmpFunc.r15 [123,124,125,126,127,128,129,130,131,132,133,134,135,136,137,138]) (.cond (.s 139) .skip (.exit 8))) (.block 9 (.reg false slices_partitionCmpFunc.r16 [140,141]))))) (.seq (.seq (.reg false slices_partitionCmpFunc.r17 [142,143]) (.cond (.s 144) (.exit 4) .skip)) (.seq (.reg true slices_partitionCmpFunc.r18 [145,146,147,148,149,150,151,152,153,154,155,156,157,158]) (.seq (.reg false slices_partitionCmpFunc.r19 [159,160]) (.reg false slices_partitionCmpFunc.r20 [161,162]))))))))) (.seq (.reg true slices_partitionCmpFunc.r21 [0,1,163,164,165,166,167,168,169,170,171,172,173,174,175,176]) (.seq (.reg false slices_partitionCmpFunc.r22 [13,177]) .ret))))))))))))
@[reducible] def slices_partitionCmpFunc : MFun:={ params:=5,nfree:=0,res:=[.tmp 10,.tmp 11],body:=slices_partitionCmpFunc.body }
@[reducible] def slices_partitionEqualCmpFunc.r0 : List MOp:=[⟨some 10,.mov (.c (.int .i64 0)),none⟩]
@[reducible] def slices_partitionEqualCmpFunc.r1 : List MOp:=[⟨some 13,.mov (.s 0),none⟩,⟨some 14,.mov (.s 1),none⟩,⟨some 15,.mov (.s 0),none⟩,⟨some 16,.mov (.s 3),none⟩,⟨some 17,.mov (.s 0),none⟩,⟨some 18,.mov (.s 3),none⟩,⟨some 19,.sidx false tS (.s 17) (.s 18),none⟩,⟨some 20,.load false none tS (.s 19),none⟩,⟨some 21,.mov (.s 0),none⟩,⟨some 22,.mov (.s 1),none⟩,⟨some 23,.sidx false tS (.s 21) (.s 22),none⟩,⟨some 24,.load false none tS (.s 23),none⟩,⟨some 25,.sidx false tS (.s 13) (.s 14),none⟩,⟨none,.store tS [] (.s 25) (.s 20),none⟩,⟨some 26,.sidx false tS (.s 15) (.s 16),none⟩,⟨none,.store tS [] (.s 26) (.s 24),none⟩]
@[reducible] def slices_partitionEqualCmpFunc.r2 : List MOp:=[⟨some 27,.mov (.s 1),none⟩,⟨some 28,.bin .add (.s 27) (.c (.int .i64 1)),none⟩,⟨some 29,.mov (.s 2),none⟩,⟨some 30,.bin .sub (.s 29) (.c (.int .i64 1)),none⟩,⟨some 11,.mov (.s 28),none⟩,⟨some 12,.mov (.s 30),none⟩]
@[reducible] def slices_partitionEqualCmpFunc.r3 : List MOp:=[⟨some 31,.mov (.s 11),none⟩,⟨some 32,.mov (.s 12),none⟩,⟨some 33,.bin .leq (.s 31) (.s 32),none⟩,⟨some 34,.mov (.s 33),none⟩,⟨some 35,.mov (.s 4),some (34,true)⟩,⟨some 36,.mov (.s 0),some (34,true)⟩,⟨some 37,.mov (.s 1),some (34,true)⟩,⟨some 38,.sidx false tS (.s 36) (.s 37),some (34,true)⟩,⟨some 39,.load false none tS (.s 38),some (34,true)⟩,⟨some 40,.mov (.s 0),some (34,true)⟩,⟨some 41,.mov (.s 11),some (34,true)⟩,⟨some 42,.sidx false tS (.s 40) (.s 41),some (34,true)⟩,⟨some 43,.load false none tS (.s 42),some (34,true)⟩,⟨some 44,.callv false [] (.s 35) [(.s 39),(.s 43)],some (34,true)⟩,⟨some 45,.bin .lss (.s 44) (.c (.int .i64 0)),some (34,true)⟩,⟨some 46,.un .not (.s 45),some (34,true)⟩,⟨some 47,.pick (.s 34) (.s 46) (.c (.bool false)),none⟩]
@[reducible] def slices_partitionEqualCmpFunc.r4 : List MOp:=[⟨some 48,.mov (.s 11),none⟩,⟨some 49,.bin .add (.s 48) (.c (.int .i64 1)),none⟩,⟨some 11,.mov (.s 49),none⟩]
@[reducible] def slices_partitionEqualCmpFunc.r5 : List MOp:=[⟨some 50,.mov (.s 11),none⟩,⟨some 51,.mov (.s 12),none⟩,⟨some 52,.bin .leq (.s 50) (.s 51),none⟩,⟨some 53,.mov (.s 52),none⟩,⟨some 54,.mov (.s 4),some (53,true)⟩,⟨some 55,.mov (.s 0),some (53,true)⟩,⟨some 56,.mov (.s 1),some (53,true)⟩,⟨some 57,.sidx false tS (.s 55) (.s 56),some (53,true)⟩,⟨some 58,.load false none tS (.s 57),some (53,true)⟩,⟨some 59,.mov (.s 0),some (53,true)⟩,⟨some 60,.mov (.s 12),some (53,true)⟩,⟨some 61,.sidx false tS (.s 59) (.s 60),some (53,true)⟩,⟨some 62,.load false none tS (.s 61),some (53,true)⟩,⟨some 63,.callv false [] (.s 54) [(.s 58),(.s 62)],some (53,true)⟩,⟨some 64,.bin .lss (.s 63) (.c (.int .i64 0)),some (53,true)⟩,⟨some 65,.pick (.s 53) (.s 64) (.c (.bool false)),none⟩]
@[reducible] def slices_partitionEqualCmpFunc.r6 : List MOp:=[⟨some 66,.mov (.s 12),none⟩,⟨some 67,.bin .sub (.s 66) (.c (.int .i64 1)),none⟩,⟨some 12,.mov (.s 67),none⟩]
@[reducible] def slices_partitionEqualCmpFunc.r7 : List MOp:=[⟨some 68,.mov (.s 11),none⟩,⟨some 69,.mov (.s 12),none⟩,⟨some 70,.bin .gtr (.s 68) (.s 69),none⟩]
@[reducible] def slices_partitionEqualCmpFunc.r8 : List MOp:=[⟨some 71,.mov (.s 0),none⟩,⟨some 72,.mov (.s 11),none⟩,⟨some 73,.mov (.s 0),none⟩,⟨some 74,.mov (.s 12),none⟩,⟨some 75,.mov (.s 0),none⟩,⟨some 76,.mov (.s 12),none⟩,⟨some 77,.sidx false tS (.s 75) (.s 76),none⟩,⟨some 78,.load false none tS (.s 77),none⟩,⟨some 79,.mov (.s 0),none⟩,⟨some 80,.mov (.s 11),none⟩,⟨some 81,.sidx false tS (.s 79) (.s 80),none⟩,⟨some 82,.load false none tS (.s 81),none⟩,⟨some 83,.sidx false tS (.s 71) (.s 72),none⟩,⟨none,.store tS [] (.s 83) (.s 78),none⟩,⟨some 84,.sidx false tS (.s 73) (.s 74),none⟩,⟨none,.store tS [] (.s 84) (.s 82),none⟩]
@[reducible] def slices_partitionEqualCmpFunc.r9 : List MOp:=[⟨some 85,.mov (.s 11),none⟩,⟨some 86,.bin .add (.s 85) (.c (.int .i64 1)),none⟩,⟨some 11,.mov (.s 86),none⟩]
@[reducible] def slices_partitionEqualCmpFunc.r10 : List MOp:=[⟨some 87,.mov (.s 12),none⟩,⟨some 88,.bin .sub (.s 87) (.c (.int .i64 1)),none⟩,⟨some 12,.mov (.s 88),none⟩]
@[reducible] def slices_partitionEqualCmpFunc.r11 : List MOp:=[⟨some 89,.mov (.s 11),none⟩,⟨some 10,.mov (.s 89),none⟩]
@[reducible] def slices_partitionEqualCmpFunc.body : MC:=(.seq (.reg false slices_partitionEqualCmpFunc.r0 [10]) (.seq (.reg true slices_partitionEqualCmpFunc.r1 [3,13,14,15,16,17,18,19,20,21,22,23,24,25,26]) (.seq (.reg false slices_partitionEqualCmpFunc.r2 [2,27,28,29,30]) (.seq (.block 0 (.loop [0,1,4,11,12] [] (.block 1 (.seq (.block 2 (.loop [0,1,4,11,12] [] (.seq (.seq (.reg true slices_partitionEqualCmpFunc.r3 [31,32,33,34,35,36,37,38,39,40,41,42,43,44,45,46]) (.cond (.s 47) .skip (.exit 2))) (.block 3 (.reg false slices_partitionEqualCmpFunc.r4 [48,49]))))) (.seq (.block 4 (.loop [0,1,4,11,12] [] (.seq (.seq (.reg true slices_partitionEqualCmpFunc.r5 [50,51,52,53,54,55,56,57,58,59,60,61,62,63,64]) (.cond (.s 65) .skip (.exit 4))) (.block 5 (.reg false slices_partitionEqualCmpFunc.r6 [66,67]))))) (.seq (.seq (.reg false slices_partitionEqualCmpFunc.r7 [68,69]) (.cond (.s 70) (.exit 0) .skip)) (.seq (.reg true slices_partitionEqualCmpFunc.r8 [71,72,73,74,75,76,77,78,79,80,81,82,83,84]) (.seq (.reg false slices_partitionEqualCmpFunc.r9 [85,86]) (.reg false slices_partitionEqualCmpFunc.r10 [87,88]))))))))) (.seq (.reg false slices_partitionEqualCmpFunc.r11 [11,89]) .ret)))))
@[reducible] def slices_partitionEqualCmpFunc : MFun:={ params:=5,nfree:=0,res:=[.tmp 10],body:=slices_partitionEqualCmpFunc.body }
@[reducible] def slices_partialInsertionSortCmpFunc.r0 : List MOp:=[⟨some 8,.mov (.c (.bool false)),none⟩]
@[reducible] def slices_partialInsertionSortCmpFunc.r1 : List MOp:=[⟨some 13,.mov (.s 1),none⟩,⟨some 14,.bin .add (.s 13) (.c (.int .i64 1)),none⟩,⟨some 9,.mov (.s 14),none⟩]
@[reducible] def slices_partialInsertionSortCmpFunc.r2 : List MOp:=[⟨some 10,.mov (.c (.int .i64 0)),none⟩]
@[reducible] def slices_partialInsertionSortCmpFunc.r3 : List MOp:=[⟨some 15,.mov (.s 10),none⟩,⟨some 16,.bin .lss (.s 15) (.c (.int .i64 5)),none⟩]
@[reducible] def slices_partialInsertionSortCmpFunc.r4 : List MOp:=[⟨some 17,.mov (.s 10),none⟩,⟨some 18,.bin .add (.s 17) (.c (.int .i64 1)),none⟩,⟨some 10,.mov (.s 18),none⟩]
@[reducible] def slices_partialInsertionSortCmpFunc.r5 : List MOp:=[⟨some 19,.mov (.s 9),none⟩,⟨some 20,.mov (.s 2),none⟩,⟨some 21,.bin .lss (.s 19) (.s 20),none⟩,⟨some 22,.mov (.s 21),none⟩,⟨some 23,.mov (.s 3),some (22,true)⟩,⟨some 24,.mov (.s 0),some (22,true)⟩,⟨some 25,.mov (.s 9),some (22,true)⟩,⟨some 26,.sidx false tS (.s 24) (.s 25),some (22,true)⟩,⟨some 27,.load false none tS (.s 26),some (22,true)⟩,⟨some 28,.mov (.s 0),some (22,true)⟩,⟨some 29,.mov (.s 9),some (22,true)⟩,⟨some 30,.bin .sub (.s 29) (.c (.int .i64 1)),some (22,true)⟩,⟨some 31,.sidx false tS (.s 28) (.s 30),some (22,true)⟩,⟨some 32,.load false none tS (.s 31),some (22,true)⟩,⟨some 33,.callv false [] (.s 23) [(.s 27),(.s 32)],some (22,true)⟩,⟨some 34,.bin .lss (.s 33) (.c (.int .i64 0)),some (22,true)⟩,⟨some 35,.un .not (.s 34),some (22,true)⟩,⟨some 36,.pick (.s 22) (.s 35) (.c (.bool false)),none⟩]
@[reducible] def slices_partialInsertionSortCmpFunc.r6 : List MOp:=[⟨some 37,.mov (.s 9),none⟩,⟨some 38,.bin .add (.s 37) (.c (.int .i64 1)),none⟩,⟨some 9,.mov (.s 38),none⟩]
@[reducible] def slices_partialInsertionSortCmpFunc.r7 : List MOp:=[⟨some 39,.mov (.s 9),none⟩,⟨some 40,.mov (.s 2),none⟩,⟨some 41,.bin .eql (.s 39) (.s 40),none⟩]
@[reducible] def slices_partialInsertionSortCmpFunc.r8 : List MOp:=[⟨some 8,.mov (.c (.bool true)),none⟩]
@[reducible] def slices_partialInsertionSortCmpFunc.r9 : List MOp:=[⟨some 42,.mov (.s 2),none⟩,⟨some 43,.mov (.s 1),none⟩,⟨some 44,.bin .sub (.s 42) (.s 43),none⟩,⟨some 45,.bin .lss (.s 44) (.c (.int .i64 50)),none⟩]
@[reducible] def slices_partialInsertionSortCmpFunc.r10 : List MOp:=[⟨some 8,.mov (.c (.bool false)),none⟩]
@[reducible] def slices_partialInsertionSortCmpFunc.r11 : List MOp:=[⟨some 46,.mov (.s 0),none⟩,⟨some 47,.mov (.s 9),none⟩,⟨some 48,.mov (.s 0),none⟩,⟨some 49,.mov (.s 9),none⟩,⟨some 50,.bin .sub (.s 49) (.c (.int .i64 1)),none⟩,⟨some 51,.mov (.s 0),none⟩,⟨some 52,.mov (.s 9),none⟩,⟨some 53,.bin .sub (.s 52) (.c (.int .i64 1)),none⟩,⟨some 54,.sidx false tS (.s 51) (.s 53),none⟩,⟨some 55,.load false none tS (.s 54),none⟩,⟨some 56,.mov (.s 0),none⟩,⟨some 57,.mov (.s 9),none⟩,⟨some 58,.sidx false tS (.s 56) (.s 57),none⟩,⟨some 59,.load false none tS (.s 58),none⟩,⟨some 60,.sidx false tS (.s 46) (.s 47),none⟩,⟨none,.store tS [] (.s 60) (.s 55),none⟩,⟨some 61,.sidx false tS (.s 48) (.s 50),none⟩,⟨none,.store tS [] (.s 61) (.s 59),none⟩]
@[reducible] def slices_partialInsertionSortCmpFunc.r12 : List MOp:=[⟨some 62,.mov (.s 9),none⟩,⟨some 63,.mov (.s 1),none⟩,⟨some 64,.bin .sub (.s 62) (.s 63),none⟩,⟨some 65,.bin .geq (.s 64) (.c (.int .i64 2)),none⟩]
@[reducible] def slices_partialInsertionSortCmpFunc.r13 : List MOp:=[⟨some 66,.mov (.s 9),none⟩,⟨some 67,.bin .sub (.s 66) (.c (.int .i64 1)),none⟩,⟨some 11,.mov (.s 67),none⟩]
@[reducible] def slices_partialInsertionSortCmpFunc.r14 : List MOp:=[⟨some 68,.mov (.s 11),none⟩,⟨some 69,.bin .geq (.s 68) (.c (.int .i64 1)),none⟩]
@[reducible] def slices_partialInsertionSortCmpFunc.r15 : List MOp:=[⟨some 70,.mov (.s 11),none⟩,⟨some 71,.bin .sub (.s 70) (.c (.int .i64 1)),none⟩,⟨some 11,.mov (.s 71),none⟩]
@[reducible] def slices_partialInsertionSortCmpFunc.r16 : List MOp:=[⟨some 72,.mov (.s 3),none⟩,⟨some 73,.mov (.s 0),none⟩,⟨some 74,.mov (.s 11),none⟩,⟨some 75,.sidx false tS (.s 73) (.s 74),none⟩,⟨some 76,.load false none tS (.s 75),none⟩,⟨some 77,.mov (.s 0),none⟩,⟨some 78,.mov (.s 11),none⟩,⟨some 79,.bin .sub (.s 78) (.c (.int .i64 1)),none⟩,⟨some 80,.sidx false tS (.s 77) (.s 79),none⟩,⟨some 81,.load false none tS (.s 80),none⟩,⟨some 82,.callv false [] (.s 72) [(.s 76),(.s 81)],none⟩,⟨some 83,.bin .lss (.s 82) (.c (.int .i64 0)),none⟩,⟨some 84,.un .not (.s 83),none⟩]
@[reducible] def slices_partialInsertionSortCmpFunc.r17 : List MOp:=[⟨some 85,.mov (.s 0),none⟩,⟨some 86,.mov (.s 11),none⟩,⟨some 87,.mov (.s 0),none⟩,⟨some 88,.mov (.s 11),none⟩,⟨some 89,.bin .sub (.s 88) (.c (.int .i64 1)),none⟩,⟨some 90,.mov (.s 0),none⟩,⟨some 91,.mov (.s 11),none⟩,⟨some 92,.bin .sub (.s 91) (.c (.int .i64 1)),none⟩,⟨some 93,.sidx false tS (.s 90) (.s 92),none⟩,⟨some 94,.load false none tS (.s 93),none⟩,⟨some 95,.mov (.s 0),none⟩,⟨some 96,.mov (.s 11),none⟩,⟨some 97,.sidx false tS (.s 95) (.s 96),none⟩,⟨some 98,.load false none tS (.s 97),none⟩,⟨some 99,.sidx false tS (.s 85) (.s 86),none⟩,⟨none,.store tS [] (.s 99) (.s 94),none⟩,⟨some 100,.sidx false tS (.s 87) (.s 89),none⟩,⟨none,.store tS [] (.s 100) (.s 98),none⟩]
@[reducible] def slices_partialInsertionSortCmpFunc.r18 : List MOp:=[⟨some 101,.mov (.s 2),none⟩,⟨some 102,.mov (.s 9),none⟩,⟨some 103,.bin .sub (.s 101) (.s 102),none⟩,⟨some 104,.bin .geq (.s 103) (.c (.int .i64 2)),none⟩]
@[reducible] def slices_partialInsertionSortCmpFunc.r19 : List MOp:=[⟨some 105,.mov (.s 9),none⟩,⟨some 106,.bin .add (.s 105) (.c (.int .i64 1)),none⟩,⟨some 12,.mov (.s 106),none⟩]
@[reducible] def slices_partialInsertionSortCmpFunc.r20 : List MOp:=[⟨some 107,.mov (.s 12),none⟩,⟨some 108,.mov (.s 2),none⟩,⟨some 109,.bin .lss (.s 107) (.s 108),none⟩]
@[reducible] def slices_partialInsertionSortCmpFunc.r21 : List MOp:=[⟨some 110,.mov (.s 12),none⟩,⟨some 111,.bin .add (.s 110) (.c (.int .i64 1)),none⟩,⟨some 12,.mov (.s 111),none⟩]
@[reducible] def slices_partialInsertionSortCmpFunc.r22 : List MOp:=[⟨some 112,.mov (.s 3),none⟩,⟨some 113,.mov (.s 0),none⟩,⟨some 114,.mov (.s 12),none⟩,⟨some 115,.sidx false tS (.s 113) (.s 114),none⟩,⟨some 116,.load false none tS (.s 115),none⟩,⟨some 117,.mov (.s 0),none⟩,⟨some 118,.mov (.s 12),none⟩,⟨some 119,.bin .sub (.s 118) (.c (.int .i64 1)),none⟩,⟨some 120,.sidx false tS (.s 117) (.s 119),none⟩,⟨some 121,.load false none tS (.s 120),none⟩,⟨some 122,.callv false [] (.s 112) [(.s 116),(.s 121)],none⟩,⟨some 123,.bin .lss (.s 122) (.c (.int .i64 0)),none⟩,⟨some 124,.un .not (.s 123),none⟩]
@[reducible] def slices_partialInsertionSortCmpFunc.r23 : List MOp:=[⟨some 125,.mov (.s 0),none⟩,⟨some 126,.mov (.s 12),none⟩,⟨some 127,.mov (.s 0),none⟩,⟨some 128,.mov (.s 12),none⟩,⟨some 129,.bin .sub (.s 128) (.c (.int .i64 1)),none⟩,⟨some 130,.mov (.s 0),none⟩,⟨some 131,.mov (.s 12),none⟩,⟨some 132,.bin .sub (.s 131) (.c (.int .i64 1)),none⟩,⟨some 133,.sidx false tS (.s 130) (.s 132),none⟩,⟨some 134,.load false none tS (.s 133),none⟩,⟨some 135,.mov (.s 0),none⟩,⟨some 136,.mov (.s 12),none⟩,⟨some 137,.sidx false tS (.s 135) (.s 136),none⟩,⟨some 138,.load false none tS (.s 137),none⟩,⟨some 139,.sidx false tS (.s 125) (.s 126),none⟩,⟨none,.store tS [] (.s 139) (.s 134),none⟩,⟨some 140,.sidx false tS (.s 127) (.s 129),none⟩,⟨none,.store tS [] (.s 140) (.s 138),none⟩]
@[reducible] def slices_partialInsertionSortCmpFunc.r24 : List MOp:=[⟨some 8,.mov (.c (.bool false)),none⟩]
@[reducible] def slices_partialInsertionSortCmpFunc.body : MC:=(.seq (.reg false slices_partialInsertionSortCmpFunc.r0 [8]) (.seq (.reg false slices_partialInsertionSortCmpFunc.r1 [13,14]) (.seq (.seq (.reg false slices_partialInsertionSortCmpFunc.r2 []) (.block 0 (.loop [0,1,2,3,9,10] [] (.seq (.seq (.reg false slices_partialInsertionSortCmpFunc.r3 [15]) (.cond (.s 16) .skip (.exit 0))) (.seq (.block 1 (.seq (.block 2 (.loop [0,1,2,3,9,10] [] (.seq (.seq (.reg true slices_partialInsertionSortCmpFunc.r5 [19,20,21,22,23,24,25,26,27,28,29,30,31,32,33,34,35]) (.cond (.s 36) .skip (.exit 2))) (.block 3 (.reg false slices_partialInsertionSortCmpFunc.r6 [37,38]))))) (.seq (.seq (.reg false slices_partialInsertionSortCmpFunc.r7 [39,40]) (.cond (.s 41) (.seq (.reg false slices_partialInsertionSortCmpFunc.r8 []) .ret) .skip)) (.seq (.seq (.reg false slices_partialInsertionSortCmpFunc.r9 [42,43,44]) (.cond (.s 45) (.seq (.reg false slices_partialInsertionSortCmpFunc.r10 []) .ret) .skip)) (.seq (.reg true slices_partialInsertionSortCmpFunc.r11 [46,47,48,49,50,51,52,53,54,55,56,57,58,59,60,61]) (.seq (.seq (.reg false slices_partialInsertionSortCmpFunc.r12 [62,63,64]) (.cond (.s 65) (.seq (.reg false slices_partialInsertionSortCmpFunc.r13 [66,67]) (.block 4 (.loop [0,1,2,3,9,10,11] [] (.seq (.seq (.reg false slices_partialInsertionSortCmpFunc.r14 [68]) (.cond (.s 69) .skip (.exit 4))) (.seq (.block 5 (.seq (.seq (.reg true slices_partialInsertionSortCmpFunc.r16 [72,73,74,75,76,77,78,79,80,81,82,83]) (.cond (.s 84) (.exit 4) .skip)) (.reg true slices_partialInsertionSortCmpFunc.r17 [85,86,87,88,89,90,91,92,93,94,95,96,97,98,99,100]))) (.reg false slices_partialInsertionSortCmpFunc.r15 [70,71])))))) .skip)) (.seq (.reg false slices_partialInsertionSortCmpFunc.r18 [101,102,103]) (.cond (.s 104) (.seq (.reg false slices_partialInsertionSortCmpFunc.r19 [105,106]) (.block 6 (.loop [0,1,2,3,9,10,12] [] (.seq (.seq (.reg false slices_partialInsertionSortCmpFunc.r20 [107,108]) (.cond (.s 109) .skip (.exit 6))) (.seq (.block 7 (.seq (.seq (.reg true slices_partialInsertionSortCmpFunc.r22 [112,113,114,115,116,117,118,119,120,121,122,123]) (.cond (.s 124) (.exit 6) .skip)) (.reg true slices_partialInsertionSortCmpFunc.r23 [125,126,127,128,129,130,131,132,133,134,135,136,137,138,139,140]))) (.reg false slices_partialInsertionSortCmpFunc.r21 [110,111])))))) .skip)))))))) (.reg false slices_partialInsertionSortCmpFunc.r4 [17,18])))))) (.seq (.reg false slices_partialInsertionSortCmpFunc.r24 []) .ret))))
@[reducible] def slices_partialInsertionSortCmpFunc : MFun:={ params:=4,nfree:=0,res:=[.tmp 8],body:=slices_partialInsertionSortCmpFunc.body }
@[reducible] def slices_reverseRangeCmpFunc.r0 : List MOp:=[⟨some 10,.mov (.s 1),none⟩,⟨some 8,.mov (.s 10),none⟩]
@[reducible] def slices_reverseRangeCmpFunc.r1 : List MOp:=[⟨some 11,.mov (.s 2),none⟩,⟨some 12,.bin .sub (.s 11) (.c (.int .i64 1)),none⟩,⟨some 9,.mov (.s 12),none⟩]
@[reducible] def slices_reverseRangeCmpFunc.r2 : List MOp:=[⟨some 13,.mov (.s 8),none⟩,⟨some 14,.mov (.s 9),none⟩,⟨some 15,.bin .lss (.s 13) (.s 14),none⟩]
@[reducible] def slices_reverseRangeCmpFunc.r3 : List MOp:=[⟨some 16,.mov (.s 0),none⟩,⟨some 17,.mov (.s 8),none⟩,⟨some 18,.mov (.s 0),none⟩,⟨some 19,.mov (.s 9),none⟩,⟨some 20,.mov (.s 0),none⟩,⟨some 21,.mov (.s 9),none⟩,⟨some 22,.sidx false tS (.s 20) (.s 21),none⟩,⟨some 23,.load false none tS (.s 22),none⟩,⟨some 24,.mov (.s 0),none⟩,⟨some 25,.mov (.s 8),none⟩,⟨some 26,.sidx false tS (.s 24) (.s 25),none⟩,⟨some 27,.load false none tS (.s 26),none⟩,⟨some 28,.sidx false tS (.s 16) (.s 17),none⟩,⟨none,.store tS [] (.s 28) (.s 23),none⟩,⟨some 29,.sidx false tS (.s 18) (.s 19),none⟩,⟨none,.store tS [] (.s 29) (.s 27),none⟩]
@[reducible] def slices_reverseRangeCmpFunc.r4 : List MOp:=[⟨some 30,.mov (.s 8),none⟩,⟨some 31,.bin .add (.s 30) (.c (.int .i64 1)),none⟩,⟨some 8,.mov (.s 31),none⟩]
@[reducible] def slices_reverseRangeCmpFunc.r5 : List MOp:=[⟨some 32,.mov (.s 9),none⟩,⟨some 33,.bin .sub (.s 32) (.c (.int .i64 1)),none⟩,⟨some 9,.mov (.s 33),none⟩]
@[reducible] def slices_reverseRangeCmpFunc.body : MC:=(.seq (.reg false slices_reverseRangeCmpFunc.r0 [1,10]) (.seq (.reg false slices_reverseRangeCmpFunc.r1 [2,11,12]) (.block 0 (.loop [0,8,9] [] (.seq (.seq (.reg false slices_reverseRangeCmpFunc.r2 [13,14]) (.cond (.s 15) .skip (.exit 0))) (.block 1 (.seq (.reg true slices_reverseRangeCmpFunc.r3 [16,17,18,19,20,21,22,23,24,25,26,27,28,29]) (.seq (.reg false slices_reverseRangeCmpFunc.r4 [30,31]) (.reg false slices_reverseRangeCmpFunc.r5 [32,33])))))))))
@[reducible] def slices_reverseRangeCmpFunc : MFun:={ params:=4,nfree:=0,res:=[],body:=slices_reverseRangeCmpFunc.body }
@[reducible] def slices_choosePivotCmpFunc.r0 : List MOp:=[⟨some 8,.mov (.c (.int .i64 0)),none⟩,⟨some 9,.mov (.c (.int .i64 0)),none⟩]
@[reducible] def slices_choosePivotCmpFunc.r1 : List MOp:=[⟨some 15,.mov (.s 2),none⟩,⟨some 16,.mov (.s 1),none⟩,⟨some 17,.bin .sub (.s 15) (.s 16),none⟩,⟨some 10,.mov (.s 17),none⟩]
@[reducible] def slices_choosePivotCmpFunc.r2 : List MOp:=[⟨some 11,.alloc false tI,none⟩]
@[reducible] def slices_choosePivotCmpFunc.r3 : List MOp:=[⟨some 18,.mov (.s 1),none⟩,⟨some 19,.mov (.s 10),none⟩,⟨some 20,.bin .quo (.s 19) (.c (.int .i64 4)),none⟩,⟨some 21,.bin .mul (.s 20) (.c (.int .i64 1)),none⟩,⟨some 22,.bin .add (.s 18) (.s 21),none⟩,⟨some 12,.mov (.s 22),none⟩]
@[reducible] def slices_choosePivotCmpFunc.r4 : List MOp:=[⟨some 23,.mov (.s 1),none⟩,⟨some 24,.mov (.s 10),none⟩,⟨some 25,.bin .quo (.s 24) (.c (.int .i64 4)),none⟩,⟨some 26,.bin .mul (.s 25) (.c (.int .i64 2)),none⟩,⟨some 27,.bin .add (.s 23) (.s 26),none⟩,⟨some 13,.mov (.s 27),none⟩]
@[reducible] def slices_choosePivotCmpFunc.r5 : List MOp:=[⟨some 28,.mov (.s 1),none⟩,⟨some 29,.mov (.s 10),none⟩,⟨some 30,.bin .quo (.s 29) (.c (.int .i64 4)),none⟩,⟨some 31,.bin .mul (.s 30) (.c (.int .i64 3)),none⟩,⟨some 32,.bin .add (.s 28) (.s 31),none⟩,⟨some 14,.mov (.s 32),none⟩]
@[reducible] def slices_choosePivotCmpFunc.r6 : List MOp:=[⟨some 33,.mov (.s 10),none⟩,⟨some 34,.bin .geq (.s 33) (.c (.int .i64 8)),none⟩]
@[reducible] def slices_choosePivotCmpFunc.r7 : List MOp:=[⟨some 35,.mov (.s 10),none⟩,⟨some 36,.bin .geq (.s 35) (.c (.int .i64 50)),none⟩]
@[reducible] def slices_choosePivotCmpFunc.r8 : List MOp:=[⟨some 37,.mov (.s 0),none⟩,⟨some 38,.mov (.s 12),none⟩,⟨some 39,.mov (.s 3),none⟩,⟨some 40,.call false [] 258 [(.s 37),(.s 38),(.s 11),(.s 39)],none⟩,⟨some 12,.mov (.s 40),none⟩]
@[reducible] def slices_choosePivotCmpFunc.r9 : List MOp:=[⟨some 41,.mov (.s 0),none⟩,⟨some 42,.mov (.s 13),none⟩,⟨some 43,.mov (.s 3),none⟩,⟨some 44,.call false [] 258 [(.s 41),(.s 42),(.s 11),(.s 43)],none⟩,⟨some 13,.mov (.s 44),none⟩]
@[reducible] def slices_choosePivotCmpFunc.r10 : List MOp:=[⟨some 45,.mov (.s 0),none⟩,⟨some 46,.mov (.s 14),none⟩,⟨some 47,.mov (.s 3),none⟩,⟨some 48,.call false [] 258 [(.s 45),(.s 46),(.s 11),(.s 47)],none⟩,⟨some 14,.mov (.s 48),none⟩]
@[reducible] def slices_choosePivotCmpFunc.r11 : List MOp:=[⟨some 49,.mov (.s 0),none⟩,⟨some 50,.mov (.s 12),none⟩,⟨some 51,.mov (.s 13),none⟩,⟨some 52,.mov (.s 14),none⟩,⟨some 53,.mov (.s 3),none⟩,⟨some 54,.call false [] 257 [(.s 49),(.s 50),(.s 51),(.s 52),(.s 11),(.s 53)],none⟩,⟨some 13,.mov (.s 54),none⟩]
@[reducible] def slices_choosePivotCmpFunc.r12 : List MOp:=[⟨some 55,.load false none tI (.s 11),none⟩]
@[reducible] def slices_choosePivotCmpFunc.r13 : List MOp:=[⟨some 56,.mov (.s 13),none⟩,⟨some 8,.mov (.s 56),none⟩,⟨some 9,.mov (.c (.int .i64 0)),none⟩]
@[reducible] def slices_choosePivotCmpFunc.r14 : List MOp:=[⟨some 58,.bin .eql (.s 55) (.c (.int .i64 0)),none⟩,⟨some 57,.mov (.s 58),none⟩]
@[reducible] def slices_choosePivotCmpFunc.r15 : List MOp:=[⟨some 59,.mov (.s 13),none⟩,⟨some 8,.mov (.s 59),none⟩,⟨some 9,.mov (.c (.int .i64 1)),none⟩]
@[reducible] def slices_choosePivotCmpFunc.r16 : List MOp:=[⟨some 61,.bin .eql (.s 55) (.c (.int .i64 12)),none⟩,⟨some 60,.mov (.s 61),none⟩]
@[reducible] def slices_choosePivotCmpFunc.r17 : List MOp:=[⟨some 62,.mov (.s 13),none⟩,⟨some 8,.mov (.s 62),none⟩,⟨some 9,.mov (.c (.int .i64 2)),none⟩]
@[reducible] def slices_choosePivotCmpFunc.body : MC:=(.seq (.reg false slices_choosePivotCmpFunc.r0 [8,9]) (.seq (.reg false slices_choosePivotCmpFunc.r1 [2,15,16,17]) (.seq (.reg false slices_choosePivotCmpFunc.r2 []) (.seq (.reg false slices_choosePivotCmpFunc.r3 [18,19,20,21,22]) (.seq (.reg false slices_choosePivotCmpFunc.r4 [23,24,25,26,27]) (.seq (.reg false slices_choosePivotCmpFunc.r5 [1,28,29,30,31,32]) (.seq (.seq (.reg false slices_choosePivotCmpFunc.r6 [33]) (.cond (.s 34) (.seq (.seq (.reg false slices_choosePivotCmpFunc.r7 [10,35]) (.cond (.s 36) (.seq (.reg false slices_choosePivotCmpFunc.r8 [37,38,39,40]) (.seq (.reg false slices_choosePivotCmpFunc.r9 [41,42,43,44]) (.reg false slices_choosePivotCmpFunc.r10 [45,46,47,48]))) .skip)) (.reg false slices_choosePivotCmpFunc.r11 [0,3,12,14,49,50,51,52,53,54])) .skip)) (.seq (.reg false slices_choosePivotCmpFunc.r12 [11]) (.block 0 (.seq (.reg false slices_choosePivotCmpFunc.r14 [58]) (.cond (.s 57) (.seq (.reg false slices_choosePivotCmpFunc.r15 [13,59]) .ret) (.seq (.reg false slices_choosePivotCmpFunc.r16 [55,61]) (.cond (.s 60) (.seq (.reg false slices_choosePivotCmpFunc.r17 [13,62]) .ret) (.seq (.reg false slices_choosePivotCmpFunc.r13 [13,56]) .ret))))))))))))))
@[reducible] def slices_choosePivotCmpFunc : MFun:={ params:=4,nfree:=0,res:=[.tmp 8,.tmp 9],body:=slices_choosePivotCmpFunc.body }
@[reducible] def slices_breakPatternsCmpFunc.r0 : List MOp:=[⟨some 13,.mov (.s 2),none⟩,⟨some 14,.mov (.s 1),none⟩,⟨some 15,.bin .sub (.s 13) (.s 14),none⟩,⟨some 8,.mov (.s 15),none⟩]
@[reducible] def slices_breakPatternsCmpFunc.r1 : List MOp:=[⟨some 16,.mov (.s 8),none⟩,⟨some 17,.bin .geq (.s 16) (.c (.int .i64 8)),none⟩]
@[reducible] def slices_breakPatternsCmpFunc.r2 : List MOp:=[⟨some 18,.mov (.s 8),none⟩,⟨some 19,.conv .u64 (.s 18),none⟩,⟨some 9,.alloc false (.leaf (.int .u64)),none⟩,⟨none,.store (.leaf (.int .u64)) [] (.s 9) (.s 19),none⟩]
@[reducible] def slices_breakPatternsCmpFunc.r3 : List MOp:=[⟨some 20,.mov (.s 8),none⟩,⟨some 21,.call false [] 256 [(.s 20)],none⟩,⟨some 10,.mov (.s 21),none⟩]
@[reducible] def slices_breakPatternsCmpFunc.r4 : List MOp:=[⟨some 22,.mov (.s 1),none⟩,⟨some 23,.mov (.s 8),none⟩,⟨some 24,.bin .quo (.s 23) (.c (.int .i64 4)),none⟩,⟨some 25,.bin .mul (.s 24) (.c (.int .i64 2)),none⟩,⟨some 26,.bin .add (.s 22) (.s 25),none⟩,⟨some 27,.bin .sub (.s 26) (.c (.int .i64 1)),none⟩,⟨some 11,.mov (.s 27),none⟩]
@[reducible] def slices_breakPatternsCmpFunc.r5 : List MOp:=[⟨some 28,.mov (.s 11),none⟩,⟨some 29,.mov (.s 1),none⟩,⟨some 30,.mov (.s 8),none⟩,⟨some 31,.bin .quo (.s 30) (.c (.int .i64 4)),none⟩,⟨some 32,.bin .mul (.s 31) (.c (.int .i64 2)),none⟩,⟨some 33,.bin .add (.s 29) (.s 32),none⟩,⟨some 34,.bin .add (.s 33) (.c (.int .i64 1)),none⟩,⟨some 35,.bin .leq (.s 28) (.s 34),none⟩]
@[reducible] def slices_breakPatternsCmpFunc.r6 : List MOp:=[⟨some 36,.mov (.s 11),none⟩,⟨some 37,.bin .add (.s 36) (.c (.int .i64 1)),none⟩,⟨some 11,.mov (.s 37),none⟩]
@[reducible] def slices_breakPatternsCmpFunc.r7 : List MOp:=[⟨some 38,.call false [] 255 [(.s 9)],none⟩,⟨some 39,.mov (.s 10),none⟩,⟨some 40,.bin .sub (.s 39) (.c (.int .u64 1)),none⟩,⟨some 41,.bin .and (.s 38) (.s 40),none⟩,⟨some 42,.conv .i64 (.s 41),none⟩,⟨some 12,.mov (.s 42),none⟩]
@[reducible] def slices_breakPatternsCmpFunc.r8 : List MOp:=[⟨some 43,.mov (.s 12),none⟩,⟨some 44,.mov (.s 8),none⟩,⟨some 45,.bin .geq (.s 43) (.s 44),none⟩]
@[reducible] def slices_breakPatternsCmpFunc.r9 : List MOp:=[⟨some 46,.mov (.s 12),none⟩,⟨some 47,.mov (.s 8),none⟩,⟨some 48,.bin .sub (.s 46) (.s 47),none⟩,⟨some 12,.mov (.s 48),none⟩]
@[reducible] def slices_breakPatternsCmpFunc.r10 : List MOp:=[⟨some 49,.mov (.s 0),none⟩,⟨some 50,.mov (.s 11),none⟩,⟨some 51,.mov (.s 0),none⟩,⟨some 52,.mov (.s 1),none⟩,⟨some 53,.mov (.s 12),none⟩,⟨some 54,.bin .add (.s 52) (.s 53),none⟩,⟨some 55,.mov (.s 0),none⟩,⟨some 56,.mov (.s 1),none⟩,⟨some 57,.mov (.s 12),none⟩,⟨some 58,.bin .add (.s 56) (.s 57),none⟩,⟨some 59,.sidx false tS (.s 55) (.s 58),none⟩,⟨some 60,.load false none tS (.s 59),none⟩,⟨some 61,.mov (.s 0),none⟩,⟨some 62,.mov (.s 11),none⟩,⟨some 63,.sidx false tS (.s 61) (.s 62),none⟩,⟨some 64,.load false none tS (.s 63),none⟩,⟨some 65,.sidx false tS (.s 49) (.s 50),none⟩,⟨none,.store tS [] (.s 65) (.s 60),none⟩,⟨some 66,.sidx false tS (.s 51) (.s 54),none⟩,⟨none,.store tS [] (.s 66) (.s 64),none⟩]
@[reducible] def slices_breakPatternsCmpFunc.body : MC:=(.seq (.reg false slices_breakPatternsCmpFunc.r0 [2,13,14,15]) (.seq (.reg false slices_breakPatternsCmpFunc.r1 [16]) (.cond (.s 17) (.seq (.reg false slices_breakPatternsCmpFunc.r2 [18,19]) (.seq (.reg false slices_breakPatternsCmpFunc.r3 [20,21]) (.seq (.reg false slices_breakPatternsCmpFunc.r4 [22,23,24,25,26,27]) (.block 0 (.loop [0,1,8,9,10,11] [9] (.seq (.seq (.reg false slices_breakPatternsCmpFunc.r5 [28,29,30,31,32,33,34]) (.cond (.s 35) .skip (.exit 0))) (.seq (.block 1 (.seq (.reg false slices_breakPatternsCmpFunc.r7 [38,39,40,41,42]) (.seq (.seq (.reg false slices_breakPatternsCmpFunc.r8 [43,44]) (.cond (.s 45) (.reg false slices_breakPatternsCmpFunc.r9 [46,47,48]) .skip)) (.reg true slices_breakPatternsCmpFunc.r10 [12,49,50,51,52,53,54,55,56,57,58,59,60,61,62,63,64,65,66])))) (.reg false slices_breakPatternsCmpFunc.r6 [36,37])))))))) .skip)))
@[reducible] def slices_breakPatternsCmpFunc : MFun:={ params:=4,nfree:=0,res:=[],body:=slices_breakPatternsCmpFunc.body }
@[reducible] def slices_heapSortCmpFunc.r0 : List MOp:=[⟨some 13,.mov (.s 1),none⟩,⟨some 8,.mov (.s 13),none⟩]
@[reducible] def slices_heapSortCmpFunc.r1 : List MOp:=[⟨some 9,.mov (.c (.int .i64 0)),none⟩]
@[reducible] def slices_heapSortCmpFunc.r2 : List MOp:=[⟨some 14,.mov (.s 2),none⟩,⟨some 15,.mov (.s 1),none⟩,⟨some 16,.bin .sub (.s 14) (.s 15),none⟩,⟨some 10,.mov (.s 16),none⟩]
@[reducible] def slices_heapSortCmpFunc.r3 : List MOp:=[⟨some 17,.mov (.s 10),none⟩,⟨some 18,.bin .sub (.s 17) (.c (.int .i64 1)),none⟩,⟨some 19,.bin .quo (.s 18) (.c (.int .i64 2)),none⟩,⟨some 11,.mov (.s 19),none⟩]
@[reducible] def slices_heapSortCmpFunc.r4 : List MOp:=[⟨some 20,.mov (.s 11),none⟩,⟨some 21,.bin .geq (.s 20) (.c (.int .i64 0)),none⟩]
@[reducible] def slices_heapSortCmpFunc.r5 : List MOp:=[⟨some 22,.mov (.s 11),none⟩,⟨some 23,.bin .sub (.s 22) (.c (.int .i64 1)),none⟩,⟨some 11,.mov (.s 23),none⟩]
@[reducible] def slices_heapSortCmpFunc.r6 : List MOp:=[⟨some 24,.mov (.s 0),none⟩,⟨some 25,.mov (.s 11),none⟩,⟨some 26,.mov (.s 10),none⟩,⟨some 27,.mov (.s 8),none⟩,⟨some 28,.mov (.s 3),none⟩,⟨some 29,.call false [] 254 [(.s 24),(.s 25),(.s 26),(.s 27),(.s 28)],none⟩]
@[reducible] def slices_heapSortCmpFunc.r7 : List MOp:=[⟨some 30,.mov (.s 10),none⟩,⟨some 31,.bin .sub (.s 30) (.c (.int .i64 1)),none⟩,⟨some 12,.mov (.s 31),none⟩]
@[reducible] def slices_heapSortCmpFunc.r8 : List MOp:=[⟨some 32,.mov (.s 12),none⟩,⟨some 33,.bin .geq (.s 32) (.c (.int .i64 0)),none⟩]
@[reducible] def slices_heapSortCmpFunc.r9 : List MOp:=[⟨some 34,.mov (.s 12),none⟩,⟨some 35,.bin .sub (.s 34) (.c (.int .i64 1)),none⟩,⟨some 12,.mov (.s 35),none⟩]
@[reducible] def slices_heapSortCmpFunc.r10 : List MOp:=[⟨some 36,.mov (.s 0),none⟩,⟨some 37,.mov (.s 8),none⟩,⟨some 38,.mov (.s 0),none⟩,⟨some 39,.mov (.s 8),none⟩,⟨some 40,.mov (.s 12),none⟩,⟨some 41,.bin .add (.s 39) (.s 40),none⟩,⟨some 42,.mov (.s 0),none⟩,⟨some 43,.mov (.s 8),none⟩,⟨some 44,.mov (.s 12),none⟩,⟨some 45,.bin .add (.s 43) (.s 44),none⟩,⟨some 46,.sidx false tS (.s 42) (.s 45),none⟩,⟨some 47,.load false none tS (.s 46),none⟩,⟨some 48,.mov (.s 0),none⟩,⟨some 49,.mov (.s 8),none⟩,⟨some 50,.sidx false tS (.s 48) (.s 49),none⟩,⟨some 51,.load false none tS (.s 50),none⟩,⟨some 52,.sidx false tS (.s 36) (.s 37),none⟩,⟨none,.store tS [] (.s 52) (.s 47),none⟩,⟨some 53,.sidx false tS (.s 38) (.s 41),none⟩,⟨none,.store tS [] (.s 53) (.s 51),none⟩]
@[reducible] def slices_heapSortCmpFunc.r11 : List MOp:=[⟨some 54,.mov (.s 0),none⟩,⟨some 55,.mov (.s 9),none⟩,⟨some 56,.mov (.s 12),none⟩,⟨some 57,.mov (.s 8),none⟩,⟨some 58,.mov (.s 3),none⟩,⟨some 59,.call false [] 254 [(.s 54),(.s 55),(.s 56),(.s 57),(.s 58)],none⟩]
@[reducible] def slices_heapSortCmpFunc.body : MC:=(.seq (.reg false slices_heapSortCmpFunc.r0 [13]) (.seq (.reg false slices_heapSortCmpFunc.r1 []) (.seq (.reg false slices_heapSortCmpFunc.r2 [1,2,14,15,16]) (.seq (.seq (.reg false slices_heapSortCmpFunc.r3 [17,18,19]) (.block 0 (.loop [0,3,8,9,10,11] [] (.seq (.seq (.reg false slices_heapSortCmpFunc.r4 [20]) (.cond (.s 21) .skip (.exit 0))) (.seq (.block 1 (.reg false slices_heapSortCmpFunc.r6 [24,25,26,27,28,29])) (.reg false slices_heapSortCmpFunc.r5 [22,23])))))) (.seq (.reg false slices_heapSortCmpFunc.r7 [10,30,31]) (.block 2 (.loop [0,3,8,9,12] [] (.seq (.seq (.reg false slices_heapSortCmpFunc.r8 [32]) (.cond (.s 33) .skip (.exit 2))) (.seq (.block 3 (.seq (.reg true slices_heapSortCmpFunc.r10 [36,37,38,39,40,41,42,43,44,45,46,47,48,49,50,51,52,53]) (.reg false slices_heapSortCmpFunc.r11 [54,55,56,57,58,59]))) (.reg false slices_heapSortCmpFunc.r9 [34,35]))))))))))
@[reducible] def slices_heapSortCmpFunc : MFun:={ params:=4,nfree:=0,res:=[],body:=slices_heapSortCmpFunc.body }
@[reducible] def slices_insertionSortCmpFunc.r0 : List MOp:=[⟨some 10,.mov (.s 1),none⟩,⟨some 11,.bin .add (.s 10) (.c (.int .i64 1)),none⟩,⟨some 8,.mov (.s 11),none⟩]
@[reducible] def slices_insertionSortCmpFunc.r1 : List MOp:=[⟨some 12,.mov (.s 8),none⟩,⟨some 13,.mov (.s 2),none⟩,⟨some 14,.bin .lss (.s 12) (.s 13),none⟩]
@[reducible] def slices_insertionSortCmpFunc.r2 : List MOp:=[⟨some 15,.mov (.s 8),none⟩,⟨some 16,.bin .add (.s 15) (.c (.int .i64 1)),none⟩,⟨some 8,.mov (.s 16),none⟩]
@[reducible] def slices_insertionSortCmpFunc.r3 : List MOp:=[⟨some 17,.mov (.s 8),none⟩,⟨some 9,.mov (.s 17),none⟩]
@[reducible] def slices_insertionSortCmpFunc.r4 : List MOp:=[⟨some 18,.mov (.s 9),none⟩,⟨some 19,.mov (.s 1),none⟩,⟨some 20,.bin .gtr (.s 18) (.s 19),none⟩,⟨some 21,.mov (.s 20),none⟩,⟨some 22,.mov (.s 3),some (21,true)⟩,⟨some 23,.mov (.s 0),some (21,true)⟩,⟨some 24,.mov (.s 9),some (21,true)⟩,⟨some 25,.sidx false tS (.s 23) (.s 24),some (21,true)⟩,⟨some 26,.load false none tS (.s 25),some (21,true)⟩,⟨some 27,.mov (.s 0),some (21,true)⟩,⟨some 28,.mov (.s 9),some (21,true)⟩,⟨some 29,.bin .sub (.s 28) (.c (.int .i64 1)),some (21,true)⟩,⟨some 30,.sidx false tS (.s 27) (.s 29),some (21,true)⟩,⟨some 31,.load false none tS (.s 30),some (21,true)⟩,⟨some 32,.callv false [] (.s 22) [(.s 26),(.s 31)],some (21,true)⟩,⟨some 33,.bin .lss (.s 32) (.c (.int .i64 0)),some (21,true)⟩,⟨some 34,.pick (.s 21) (.s 33) (.c (.bool false)),none⟩]
@[reducible] def slices_insertionSortCmpFunc.r5 : List MOp:=[⟨some 35,.mov (.s 9),none⟩,⟨some 36,.bin .sub (.s 35) (.c (.int .i64 1)),none⟩,⟨some 9,.mov (.s 36),none⟩]
@[reducible] def slices_insertionSortCmpFunc.r6 : List MOp:=[⟨some 37,.mov (.s 0),none⟩,⟨some 38,.mov (.s 9),none⟩,⟨some 39,.mov (.s 0),none⟩,⟨some 40,.mov (.s 9),none⟩,⟨some 41,.bin .sub (.s 40) (.c (.int .i64 1)),none⟩,⟨some 42,.mov (.s 0),none⟩,⟨some 43,.mov (.s 9),none⟩,⟨some 44,.bin .sub (.s 43) (.c (.int .i64 1)),none⟩,⟨some 45,.sidx false tS (.s 42) (.s 44),none⟩,⟨some 46,.load false none tS (.s 45),none⟩,⟨some 47,.mov (.s 0),none⟩,⟨some 48,.mov (.s 9),none⟩,⟨some 49,.sidx false tS (.s 47) (.s 48),none⟩,⟨some 50,.load false none tS (.s 49),none⟩,⟨some 51,.sidx false tS (.s 37) (.s 38),none⟩,⟨none,.store tS [] (.s 51) (.s 46),none⟩,⟨some 52,.sidx false tS (.s 39) (.s 41),none⟩,⟨none,.store tS [] (.s 52) (.s 50),none⟩]
@[reducible] def slices_insertionSortCmpFunc.body : MC:=(.seq (.reg false slices_insertionSortCmpFunc.r0 [10,11]) (.block 0 (.loop [0,1,2,3,8] [] (.seq (.seq (.reg false slices_insertionSortCmpFunc.r1 [12,13]) (.cond (.s 14) .skip (.exit 0))) (.seq (.block 1 (.seq (.reg false slices_insertionSortCmpFunc.r3 [17]) (.block 2 (.loop [0,1,2,3,8,9] [] (.seq (.seq (.reg true slices_insertionSortCmpFunc.r4 [18,19,20,21,22,23,24,25,26,27,28,29,30,31,32,33]) (.cond (.s 34) .skip (.exit 2))) (.seq (.block 3 (.reg true slices_insertionSortCmpFunc.r6 [37,38,39,40,41,42,43,44,45,46,47,48,49,50,51,52])) (.reg false slices_insertionSortCmpFunc.r5 [35,36]))))))) (.reg false slices_insertionSortCmpFunc.r2 [15,16]))))))
@[reducible] def slices_insertionSortCmpFunc : MFun:={ params:=4,nfree:=0,res:=[],body:=slices_insertionSortCmpFunc.body }
@[reducible] def math_bits_Len64.r0 : List MOp:=[⟨some 2,.mov (.c (.int .i64 0)),none⟩]
@[reducible] def math_bits_Len64.r1 : List MOp:=[⟨some 3,.mov (.s 0),none⟩,⟨some 4,.bin .geq (.s 3) (.c (.int .u64 4294967296)),none⟩]
@[reducible] def math_bits_Len64.r2 : List MOp:=[⟨some 5,.mov (.s 0),none⟩,⟨some 6,.bin .shr (.s 5) (.c (.int .u64 32)),none⟩,⟨some 0,.mov (.s 6),none⟩]
@[reducible] def math_bits_Len64.r3 : List MOp:=[⟨some 2,.mov (.c (.int .i64 32)),none⟩]
@[reducible] def math_bits_Len64.r4 : List MOp:=[⟨some 7,.mov (.s 0),none⟩,⟨some 8,.bin .geq (.s 7) (.c (.int .u64 65536)),none⟩]
@[reducible] def math_bits_Len64.r5 : List MOp:=[⟨some 9,.mov (.s 0),none⟩,⟨some 10,.bin .shr (.s 9) (.c (.int .u64 16)),none⟩,⟨some 0,.mov (.s 10),none⟩]
@[reducible] def math_bits_Len64.r6 : List MOp:=[⟨some 11,.mov (.s 2),none⟩,⟨some 12,.bin .add (.s 11) (.c (.int .i64 16)),none⟩,⟨some 2,.mov (.s 12),none⟩]
@[reducible] def math_bits_Len64.r7 : List MOp:=[⟨some 13,.mov (.s 0),none⟩,⟨some 14,.bin .geq (.s 13) (.c (.int .u64 256)),none⟩]
@[reducible] def math_bits_Len64.r8 : List MOp:=[⟨some 15,.mov (.s 0),none⟩,⟨some 16,.bin .shr (.s 15) (.c (.int .u64 8)),none⟩,⟨some 0,.mov (.s 16),none⟩]
@[reducible] def math_bits_Len64.r9 : List MOp:=[⟨some 17,.mov (.s 2),none⟩,⟨some 18,.bin .add (.s 17) (.c (.int .i64 8)),none⟩,⟨some 2,.mov (.s 18),none⟩]
@[reducible] def math_bits_Len64.r10 : List MOp:=[⟨some 19,.mov (.s 2),none⟩,⟨some 20,.mov (.s 0),none⟩,⟨some 21,.conv .u8 (.s 20),none⟩,⟨some 22,.stridx (.c (.str ⟨#[0,1,2,2,3,3,3,3,4,4,4,4,4,4,4,4,5,5,5,5,5,5,5,5,5,5,5,5,5,5,5,5,6,6,6,6,6,6,6,6,6,6,6,6,6,6,6,6,6,6,6,6,6,6,6,6,6,6,6,6,6,6,6,6,7,7,7,7,7,7,7,7,7,7,7,7,7,7,7,7,7,7,7,7,7,7,7,7,7,7,7,7,7,7,7,7,7,7,7,7,7,7,7,7,7,7,7,7,7,7,7,7,7,7,7,7,7,7,7,7,7,7,7,7,7,7,7,7,8,8,8,8,8,8,8,8,8,8,8,8,8,8,8,8,8,8,8,8,8,8,8,8,8,8,8,8,8,8,8,8,8,8,8,8,8,8,8,8,8,8,8,8,8,8,8,8,8,8,8,8,8,8,8,8,8,8,8,8,8,8,8,8,8,8,8,8,8,8,8,8,8,8,8,8,8,8,8,8,8,8,8,8,8,8,8,8,8,8,8,8,8,8,8,8,8,8,8,8,8,8,8,8,8,8,8,8,8,8,8,8,8,8,8,8,8,8,8,8,8,8,8,8,8,8,8,8]⟩)) (.s 21),none⟩,⟨some 23,.conv .i64 (.s 22),none⟩,⟨some 24,.bin .add (.s 19) (.s 23),none⟩,⟨some 2,.mov (.s 24),none⟩]
@[reducible] def math_bits_Len64.body : MC:=(.seq (.reg false math_bits_Len64.r0 []) (.seq (.seq (.reg false math_bits_Len64.r1 [3]) (.cond (.s 4) (.seq (.reg false math_bits_Len64.r2 [5,6]) (.reg false math_bits_Len64.r3 [])) .skip)) (.seq (.seq (.reg false math_bits_Len64.r4 [7]) (.cond (.s 8) (.seq (.reg false math_bits_Len64.r5 [9,10]) (.reg false math_bits_Len64.r6 [11,12])) .skip)) (.seq (.seq (.reg false math_bits_Len64.r7 [13]) (.cond (.s 14) (.seq (.reg false math_bits_Len64.r8 [15,16]) (.reg false math_bits_Len64.r9 [17,18])) .skip)) (.seq (.reg false math_bits_Len64.r10 [0,19,20,21,22,23,24]) .ret)))))
@[reducible] def math_bits_Len64 : MFun:={ params:=1,nfree:=0,res:=[.tmp 2],body:=math_bits_Len64.body }
@[reducible] def math_bits_Len32.r0 : List MOp:=[⟨some 2,.mov (.c (.int .i64 0)),none⟩]
@[reducible] def math_bits_Len32.r1 : List MOp:=[⟨some 3,.mov (.s 0),none⟩,⟨some 4,.bin .geq (.s 3) (.c (.int .u32 65536)),none⟩]
@[reducible] def math_bits_Len32.r2 : List MOp:=[⟨some 5,.mov (.s 0),none⟩,⟨some 6,.bin .shr (.s 5) (.c (.int .u64 16)),none⟩,⟨some 0,.mov (.s 6),none⟩]
@[reducible] def math_bits_Len32.r3 : List MOp:=[⟨some 2,.mov (.c (.int .i64 16)),none⟩]
@[reducible] def math_bits_Len32.r4 : List MOp:=[⟨some 7,.mov (.s 0),none⟩,⟨some 8,.bin .geq (.s 7) (.c (.int .u32 256)),none⟩]
@[reducible] def math_bits_Len32.r5 : List MOp:=[⟨some 9,.mov (.s 0),none⟩,⟨some 10,.bin .shr (.s 9) (.c (.int .u64 8)),none⟩,⟨some 0,.mov (.s 10),none⟩]
@[reducible] def math_bits_Len32.r6 : List MOp:=[⟨some 11,.mov (.s 2),none⟩,⟨some 12,.bin .add (.s 11) (.c (.int .i64 8)),none⟩,⟨some 2,.mov (.s 12),none⟩]
@[reducible] def math_bits_Len32.r7 : List MOp:=[⟨some 13,.mov (.s 2),none⟩,⟨some 14,.mov (.s 0),none⟩,⟨some 15,.conv .u8 (.s 14),none⟩,⟨some 16,.stridx (.c (.str ⟨#[0,1,2,2,3,3,3,3,4,4,4,4,4,4,4,4,5,5,5,5,5,5,5,5,5,5,5,5,5,5,5,5,6,6,6,6,6,6,6,6,6,6,6,6,6,6,6,6,6,6,6,6,6,6,6,6,6,6,6,6,6,6,6,6,7,7,7,7,7,7,7,7,7,7,7,7,7,7,7,7,7,7,7,7,7,7,7,7,7,7,7,7,7,7,7,7,7,7,7,7,7,7,7,7,7,7,7,7,7,7,7,7,7,7,7,7,7,7,7,7,7,7,7,7,7,7,7,7,8,8,8,8,8,8,8,8,8,8,8,8,8,8,8,8,8,8,8,8,8,8,8,8,8,8,8,8,8,8,8,8,8,8,8,8,8,8,8,8,8,8,8,8,8,8,8,8,8,8,8,8,8,8,8,8,8,8,8,8,8,8,8,8,8,8,8,8,8,8,8,8,8,8,8,8,8,8,8,8,8,8,8,8,8,8,8,8,8,8,8,8,8,8,8,8,8,8,8,8,8,8,8,8,8,8,8,8,8,8,8,8,8,8,8,8,8,8,8,8,8,8,8,8,8,8,8,8]⟩)) (.s 15),none⟩,⟨some 17,.conv .i64 (.s 16),none⟩,⟨some 18,.bin .add (.s 13) (.s 17),none⟩,⟨some 2,.mov (.s 18),none⟩]
@[reducible] def math_bits_Len32.body : MC:=(.seq (.reg false math_bits_Len32.r0 []) (.seq (.seq (.reg false math_bits_Len32.r1 [3]) (.cond (.s 4) (.seq (.reg false math_bits_Len32.r2 [5,6]) (.reg false math_bits_Len32.r3 [])) .skip)) (.seq (.seq (.reg false math_bits_Len32.r4 [7]) (.cond (.s 8) (.seq (.reg false math_bits_Len32.r5 [9,10]) (.reg false math_bits_Len32.r6 [11,12])) .skip)) (.seq (.reg false math_bits_Len32.r7 [0,13,14,15,16,17,18]) .ret))))
@[reducible] def math_bits_Len32 : MFun:={ params:=1,nfree:=0,res:=[.tmp 2],body:=math_bits_Len32.body }
@[reducible] def slices_siftDownCmpFunc.r0 : List MOp:=[⟨some 12,.mov (.s 1),none⟩,⟨some 10,.mov (.s 12),none⟩]
@[reducible] def slices_siftDownCmpFunc.r1 : List MOp:=[⟨some 13,.mov (.s 10),none⟩,⟨some 14,.bin .mul (.c (.int .i64 2)) (.s 13),none⟩,⟨some 15,.bin .add (.s 14) (.c (.int .i64 1)),none⟩,⟨some 11,.mov (.s 15),none⟩]
@[reducible] def slices_siftDownCmpFunc.r2 : List MOp:=[⟨some 16,.mov (.s 11),none⟩,⟨some 17,.mov (.s 2),none⟩,⟨some 18,.bin .geq (.s 16) (.s 17),none⟩]
@[reducible] def slices_siftDownCmpFunc.r3 : List MOp:=[⟨some 19,.mov (.s 11),none⟩,⟨some 20,.bin .add (.s 19) (.c (.int .i64 1)),none⟩,⟨some 21,.mov (.s 2),none⟩,⟨some 22,.bin .lss (.s 20) (.s 21),none⟩,⟨some 23,.mov (.s 22),none⟩,⟨some 24,.mov (.s 4),some (23,true)⟩,⟨some 25,.mov (.s 0),some (23,true)⟩,⟨some 26,.mov (.s 3),some (23,true)⟩,⟨some 27,.mov (.s 11),some (23,true)⟩,⟨some 28,.bin .add (.s 26) (.s 27),some (23,true)⟩,⟨some 29,.sidx false tS (.s 25) (.s 28),some (23,true)⟩,⟨some 30,.load false none tS (.s 29),some (23,true)⟩,⟨some 31,.mov (.s 0),some (23,true)⟩,⟨some 32,.mov (.s 3),some (23,true)⟩,⟨some 33,.mov (.s 11),some (23,true)⟩,⟨some 34,.bin .add (.s 32) (.s 33),some (23,true)⟩,⟨some 35,.bin .add (.s 34) (.c (.int .i64 1)),some (23,true)⟩,⟨some 36,.sidx false tS (.s 31) (.s 35),some (23,true)⟩,⟨some 37,.load false none tS (.s 36),some (23,true)⟩,⟨some 38,.callv false [] (.s 24) [(.s 30),(.s 37)],some (23,true)⟩,⟨some 39,.bin .lss (.s 38) (.c (.int .i64 0)),some (23,true)⟩,⟨some 40,.pick (.s 23) (.s 39) (.c (.bool false)),none⟩]
@[reducible] def slices_siftDownCmpFunc.r4 : List MOp:=[⟨some 41,.mov (.s 11),none⟩,⟨some 42,.bin .add (.s 41) (.c (.int .i64 1)),none⟩,⟨some 11,.mov (.s 42),none⟩]
@[reducible] def slices_siftDownCmpFunc.r5 : List MOp:=[⟨some 43,.mov (.s 4),none⟩,⟨some 44,.mov (.s 0),none⟩,⟨some 45,.mov (.s 3),none⟩,⟨some 46,.mov (.s 10),none⟩,⟨some 47,.bin .add (.s 45) (.s 46),none⟩,⟨some 48,.sidx false tS (.s 44) (.s 47),none⟩,⟨some 49,.load false none tS (.s 48),none⟩,⟨some 50,.mov (.s 0),none⟩,⟨some 51,.mov (.s 3),none⟩,⟨some 52,.mov (.s 11),none⟩,⟨some 53,.bin .add (.s 51) (.s 52),none⟩,⟨some 54,.sidx false tS (.s 50) (.s 53),none⟩,⟨some 55,.load false none tS (.s 54),none⟩,⟨some 56,.callv false [] (.s 43) [(.s 49),(.s 55)],none⟩,⟨some 57,.bin .lss (.s 56) (.c (.int .i64 0)),none⟩,⟨some 58,.un .not (.s 57),none⟩]
@[reducible] def slices_siftDownCmpFunc.r6 : List MOp:=[⟨some 59,.mov (.s 0),none⟩,⟨some 60,.mov (.s 3),none⟩,⟨some 61,.mov (.s 10),none⟩,⟨some 62,.bin .add (.s 60) (.s 61),none⟩,⟨some 63,.mov (.s 0),none⟩,⟨some 64,.mov (.s 3),none⟩,⟨some 65,.mov (.s 11),none⟩,⟨some 66,.bin .add (.s 64) (.s 65),none⟩,⟨some 67,.mov (.s 0),none⟩,⟨some 68,.mov (.s 3),none⟩,⟨some 69,.mov (.s 11),none⟩,⟨some 70,.bin .add (.s 68) (.s 69),none⟩,⟨some 71,.sidx false tS (.s 67) (.s 70),none⟩,⟨some 72,.load false none tS (.s 71),none⟩,⟨some 73,.mov (.s 0),none⟩,⟨some 74,.mov (.s 3),none⟩,⟨some 75,.mov (.s 10),none⟩,⟨some 76,.bin .add (.s 74) (.s 75),none⟩,⟨some 77,.sidx false tS (.s 73) (.s 76),none⟩,⟨some 78,.load false none tS (.s 77),none⟩,⟨some 79,.sidx false tS (.s 59) (.s 62),none⟩,⟨none,.store tS [] (.s 79) (.s 72),none⟩,⟨some 80,.sidx false tS (.s 63) (.s 66),none⟩,⟨none,.store tS [] (.s 80) (.s 78),none⟩]
@[reducible] def slices_siftDownCmpFunc.r7 : List MOp:=[⟨some 81,.mov (.s 11),none⟩,⟨some 10,.mov (.s 81),none⟩]
@[reducible] def slices_siftDownCmpFunc.body : MC:=(.seq (.reg false slices_siftDownCmpFunc.r0 [1,12]) (.block 0 (.loop [0,2,3,4,10] [] (.block 1 (.seq (.reg false slices_siftDownCmpFunc.r1 [13,14,15]) (.seq (.seq (.reg false slices_siftDownCmpFunc.r2 [16,17]) (.cond (.s 18) (.exit 0) .skip)) (.seq (.seq (.reg true slices_siftDownCmpFunc.r3 [19,20,21,22,23,24,25,26,27,28,29,30,31,32,33,34,35,36,37,38,39]) (.cond (.s 40) (.reg false slices_siftDownCmpFunc.r4 [41,42]) .skip)) (.seq (.seq (.reg true slices_siftDownCmpFunc.r5 [43,44,45,46,47,48,49,50,51,52,53,54,55,56,57]) (.cond (.s 58) .ret .skip)) (.seq (.reg true slices_siftDownCmpFunc.r6 [10,59,60,61,62,63,64,65,66,67,68,69,70,71,72,73,74,75,76,77,78,79,80]) (.reg false slices_siftDownCmpFunc.r7 [11,81]))))))))))
@[reducible] def slices_siftDownCmpFunc : MFun:={ params:=5,nfree:=0,res:=[],body:=slices_siftDownCmpFunc.body }
@[reducible] def slices_xorshift_Next.r0 : List MOp:=[⟨some 2,.mov (.c (.int .u64 0)),none⟩]
@[reducible] def slices_xorshift_Next.r1 : List MOp:=[⟨some 3,.mov (.s 0),none⟩,⟨some 4,.nilck (.s 3),none⟩,⟨some 5,.load false none (.leaf (.int .u64)) (.s 4),none⟩,⟨some 6,.mov (.s 0),none⟩,⟨some 7,.nilck (.s 6),none⟩,⟨some 8,.load false none (.leaf (.int .u64)) (.s 7),none⟩,⟨some 9,.bin .shl (.s 8) (.c (.int .u64 13)),none⟩,⟨some 10,.bin .xor (.s 5) (.s 9),none⟩,⟨some 11,.nilck (.s 3),none⟩,⟨none,.store (.leaf (.int .u64)) [] (.s 11) (.s 10),none⟩]
@[reducible] def slices_xorshift_Next.r2 : List MOp:=[⟨some 12,.mov (.s 0),none⟩,⟨some 13,.nilck (.s 12),none⟩,⟨some 14,.load false none (.leaf (.int .u64)) (.s 13),none⟩,⟨some 15,.mov (.s 0),none⟩,⟨some 16,.nilck (.s 15),none⟩,⟨some 17,.load false none (.leaf (.int .u64)) (.s 16),none⟩,⟨some 18,.bin .shr (.s 17) (.c (.int .u64 7)),none⟩,⟨some 19,.bin .xor (.s 14) (.s 18),none⟩,⟨some 20,.nilck (.s 12),none⟩,⟨none,.store (.leaf (.int .u64)) [] (.s 20) (.s 19),none⟩]
@[reducible] def slices_xorshift_Next.r3 : List MOp:=[⟨some 21,.mov (.s 0),none⟩,⟨some 22,.nilck (.s 21),none⟩,⟨some 23,.load false none (.leaf (.int .u64)) (.s 22),none⟩,⟨some 24,.mov (.s 0),none⟩,⟨some 25,.nilck (.s 24),none⟩,⟨some 26,.load false none (.leaf (.int .u64)) (.s 25),none⟩,⟨some 27,.bin .shl (.s 26) (.c (.int .u64 17)),none⟩,⟨some 28,.bin .xor (.s 23) (.s 27),none⟩,⟨some 29,.nilck (.s 21),none⟩,⟨none,.store (.leaf (.int .u64)) [] (.s 29) (.s 28),none⟩]
@[reducible] def slices_xorshift_Next.r4 : List MOp:=[⟨some 30,.mov (.s 0),none⟩,⟨some 31,.nilck (.s 30),none⟩,⟨some 32,.load false none (.leaf (.int .u64)) (.s 31),none⟩,⟨some 2,.mov (.s 32),none⟩]
@[reducible] def slices_xorshift_Next.body : MC:=(.seq (.reg false slices_xorshift_Next.r0 [2]) (.seq (.reg true slices_xorshift_Next.r1 [3,4,5,6,7,8,9,10,11]) (.seq (.reg true slices_xorshift_Next.r2 [12,13,14,15,16,17,18,19,20]) (.seq (.reg true slices_xorshift_Next.r3 [21,22,23,24,25,26,27,28,29]) (.seq (.reg false slices_xorshift_Next.r4 [0,30,31,32]) .ret)))))
@[reducible] def slices_xorshift_Next : MFun:={ params:=1,nfree:=0,res:=[.tmp 2],body:=slices_xorshift_Next.body }
@[reducible] def slices_nextPowerOfTwo.r0 : List MOp:=[⟨some 2,.mov (.c (.int .u64 0)),none⟩]
@[reducible] def slices_nextPowerOfTwo.r1 : List MOp:=[⟨some 3,.mov (.s 0),none⟩,⟨some 4,.conv .u64 (.s 3),none⟩,⟨some 5,.call false [] 240 [(.s 4)],none⟩,⟨some 6,.bin .shl (.c (.int .u64 1)) (.s 5),none⟩,⟨some 2,.mov (.s 6),none⟩]
@[reducible] def slices_nextPowerOfTwo.body : MC:=(.seq (.reg false slices_nextPowerOfTwo.r0 [2]) (.seq (.reg false slices_nextPowerOfTwo.r1 [0,3,4,5,6]) .ret))
@[reducible] def slices_nextPowerOfTwo : MFun:={ params:=1,nfree:=0,res:=[.tmp 2],body:=slices_nextPowerOfTwo.body }
@[reducible] def slices_medianCmpFunc.r0 : List MOp:=[⟨some 12,.mov (.c (.int .i64 0)),none⟩]
@[reducible] def slices_medianCmpFunc.r1 : List MOp:=[⟨some 14,.mov (.s 0),none⟩,⟨some 15,.mov (.s 1),none⟩,⟨some 16,.mov (.s 2),none⟩,⟨some 17,.mov (.s 4),none⟩,⟨some 18,.mov (.s 5),none⟩,⟨some 19,.call false [] 259 [(.s 14),(.s 15),(.s 16),(.s 17),(.s 18)],none⟩,⟨some 13,.mov (.s 19),none⟩,⟨some 20,.ext (.s 13) 0,none⟩,⟨some 21,.ext (.s 13) 1,none⟩,⟨some 1,.mov (.s 20),none⟩,⟨some 2,.mov (.s 21),none⟩]
@[reducible] def slices_medianCmpFunc.r2 : List MOp:=[⟨some 23,.mov (.s 0),none⟩,⟨some 24,.mov (.s 2),none⟩,⟨some 25,.mov (.s 3),none⟩,⟨some 26,.mov (.s 4),none⟩,⟨some 27,.mov (.s 5),none⟩,⟨some 28,.call false [] 259 [(.s 23),(.s 24),(.s 25),(.s 26),(.s 27)],none⟩,⟨some 22,.mov (.s 28),none⟩,⟨some 29,.ext (.s 22) 0,none⟩,⟨some 30,.ext (.s 22) 1,none⟩,⟨some 2,.mov (.s 29),none⟩,⟨some 3,.mov (.s 30),none⟩]
@[reducible] def slices_medianCmpFunc.r3 : List MOp:=[⟨some 32,.mov (.s 0),none⟩,⟨some 33,.mov (.s 1),none⟩,⟨some 34,.mov (.s 2),none⟩,⟨some 35,.mov (.s 4),none⟩,⟨some 36,.mov (.s 5),none⟩,⟨some 37,.call false [] 259 [(.s 32),(.s 33),(.s 34),(.s 35),(.s 36)],none⟩,⟨some 31,.mov (.s 37),none⟩,⟨some 38,.ext (.s 31) 0,none⟩,⟨some 39,.ext (.s 31) 1,none⟩,⟨some 1,.mov (.s 38),none⟩,⟨some 2,.mov (.s 39),none⟩]
@[reducible] def slices_medianCmpFunc.r4 : List MOp:=[⟨some 40,.mov (.s 2),none⟩,⟨some 12,.mov (.s 40),none⟩]
@[reducible] def slices_medianCmpFunc.body : MC:=(.seq (.reg false slices_medianCmpFunc.r0 [12]) (.seq (.reg false slices_medianCmpFunc.r1 [13,14,15,16,17,18,19,20,21]) (.seq (.reg false slices_medianCmpFunc.r2 [3,22,23,24,25,26,27,28,29,30]) (.seq (.reg false slices_medianCmpFunc.r3 [0,1,4,5,31,32,33,34,35,36,37,38,39]) (.seq (.reg false slices_medianCmpFunc.r4 [2,40]) .ret)))))
@[reducible] def slices_medianCmpFunc : MFun:={ params:=6,nfree:=0,res:=[.tmp 12],body:=slices_medianCmpFunc.body }
@[reducible] def slices_medianAdjacentCmpFunc.r0 : List MOp:=[⟨some 8,.mov (.c (.int .i64 0)),none⟩]
@[reducible] def slices_medianAdjacentCmpFunc.r1 : List MOp:=[⟨some 9,.mov (.s 0),none⟩,⟨some 10,.mov (.s 1),none⟩,⟨some 11,.bin .sub (.s 10) (.c (.int .i64 1)),none⟩,⟨some 12,.mov (.s 1),none⟩,⟨some 13,.mov (.s 1),none⟩,⟨some 14,.bin .add (.s 13) (.c (.int .i64 1)),none⟩,⟨some 15,.mov (.s 2),none⟩,⟨some 16,.mov (.s 3),none⟩,⟨some 17,.call false [] 257 [(.s 9),(.s 11),(.s 12),(.s 14),(.s 15),(.s 16)],none⟩,⟨some 8,.mov (.s 17),none⟩]
@[reducible] def slices_medianAdjacentCmpFunc.body : MC:=(.seq (.reg false slices_medianAdjacentCmpFunc.r0 [8]) (.seq (.reg false slices_medianAdjacentCmpFunc.r1 [0,1,2,3,9,10,11,12,13,14,15,16,17]) .ret))
@[reducible] def slices_medianAdjacentCmpFunc : MFun:={ params:=4,nfree:=0,res:=[.tmp 8],body:=slices_medianAdjacentCmpFunc.body }
@[reducible] def slices_order2CmpFunc.r0 : List MOp:=[⟨some 10,.mov (.c (.int .i64 0)),none⟩,⟨some 11,.mov (.c (.int .i64 0)),none⟩]
@[reducible] def slices_order2CmpFunc.r1 : List MOp:=[⟨some 12,.mov (.s 4),none⟩,⟨some 13,.mov (.s 0),none⟩,⟨some 14,.mov (.s 2),none⟩,⟨some 15,.sidx false tS (.s 13) (.s 14),none⟩,⟨some 16,.load false none tS (.s 15),none⟩,⟨some 17,.mov (.s 0),none⟩,⟨some 18,.mov (.s 1),none⟩,⟨some 19,.sidx false tS (.s 17) (.s 18),none⟩,⟨some 20,.load false none tS (.s 19),none⟩,⟨some 21,.callv false [] (.s 12) [(.s 16),(.s 20)],none⟩,⟨some 22,.bin .lss (.s 21) (.c (.int .i64 0)),none⟩]
@[reducible] def slices_order2CmpFunc.r2 : List MOp:=[⟨some 23,.mov (.s 3),none⟩,⟨some 24,.nilck (.s 23),none⟩,⟨some 25,.load false none tI (.s 24),none⟩,⟨some 26,.bin .add (.s 25) (.c (.int .i64 1)),none⟩,⟨some 27,.nilck (.s 23),none⟩,⟨none,.store tI [] (.s 27) (.s 26),none⟩]
@[reducible] def slices_order2CmpFunc.r3 : List MOp:=[⟨some 28,.mov (.s 2),none⟩,⟨some 29,.mov (.s 1),none⟩,⟨some 10,.mov (.s 28),none⟩,⟨some 11,.mov (.s 29),none⟩]
@[reducible] def slices_order2CmpFunc.r4 : List MOp:=[⟨some 30,.mov (.s 1),none⟩,⟨some 31,.mov (.s 2),none⟩,⟨some 10,.mov (.s 30),none⟩,⟨some 11,.mov (.s 31),none⟩]
@[reducible] def slices_order2CmpFunc.body : MC:=(.seq (.reg false slices_order2CmpFunc.r0 [10,11]) (.seq (.seq (.reg true slices_order2CmpFunc.r1 [0,4,12,13,14,15,16,17,18,19,20,21]) (.cond (.s 22) (.seq (.reg false slices_order2CmpFunc.r2 [3,23,24,25,26,27]) (.seq (.reg false slices_order2CmpFunc.r3 [1,2,28,29]) .ret)) .skip)) (.seq (.reg false slices_order2CmpFunc.r4 [1,2,30,31]) .ret)))
@[reducible] def slices_order2CmpFunc : MFun:={ params:=5,nfree:=0,res:=[.tmp 10,.tmp 11],body:=slices_order2CmpFunc.body }
@[reducible] def soft_Files_List.r0 : List MOp:=[⟨some 4,.mov (.c .nilsl),none⟩]
@[reducible] def soft_Files_List.r1 : List MOp:=[⟨some 5,.mov (.c .nilsl),none⟩]
@[reducible] def soft_Files_List.r2 : List MOp:=[⟨some 8,.mov (.s 1),none⟩,⟨some 9,.bin .lss (.s 8) (.c (.int .i64 0)),none⟩,⟨some 10,.mov (.s 9),none⟩,⟨some 11,.mov (.s 1),some (10,false)⟩,⟨some 12,.bin .geq (.s 11) (.c (.int .i64 3)),some (10,false)⟩,⟨some 13,.pick (.s 10) (.c (.bool true)) (.s 12),none⟩]
@[reducible] def soft_Files_List.r3 : List MOp:=[⟨some 4,.mov (.c .nilsl),none⟩]
@[reducible] def soft_Files_List.r4 : List MOp:=[⟨some 14,.mov (.s 0),none⟩,⟨some 15,.nilck (.s 14),none⟩,⟨some 16,.fld tFiles 0 tP (.s 15),none⟩,⟨some 17,.load false none tP (.s 16),none⟩,⟨some 18,.mov (.s 1),none⟩,⟨some 19,.nilck (.s 17),none⟩,⟨some 20,.fld tCache 0 tImage (.s 19),none⟩,⟨some 21,.fld tImage 1 tDirs (.s 20),none⟩,⟨some 22,.idx 3 tRow (.s 21) (.s 18),none⟩,⟨some 23,.load false none tRow (.s 22),none⟩,⟨some 24,.mov (.c (.int .i64 0)),none⟩]
@[reducible] def soft_Files_List.r5 : List MOp:=[⟨some 25,.bin .lss (.s 24) (.c (.int .i64 4)),none⟩]
@[reducible] def soft_Files_List.r6 : List MOp:=[⟨some 26,.aidx 4 tEntry (.s 23) (.s 24),none⟩,⟨some 7,.alloc false tEntry,none⟩,⟨none,.store tEntry [] (.s 7) (.s 26),none⟩]
@[reducible] def soft_Files_List.r7 : List MOp:=[⟨some 27,.fld tEntry 0 tS (.s 7),none⟩,⟨some 28,.load false none tS (.s 27),none⟩,⟨some 29,.bin .neq (.s 28) (.c (.str ⟨#[]⟩)),none⟩]
@[reducible] def soft_Files_List.r8 : List MOp:=[⟨some 30,.mov (.s 5),none⟩,⟨some 31,.fld tEntry 0 tS (.s 7),none⟩,⟨some 32,.load false none tS (.s 31),none⟩,⟨some 33,.bslice false tS 1 [(0,(.s 32))],none⟩,⟨some 34,.append true [] tS (.s 30) (.s 33),none⟩,⟨some 5,.mov (.s 34),none⟩]
@[reducible] def soft_Files_List.r9 : List MOp:=[⟨some 35,.bin .add (.s 24) (.c (.int .i64 1)),none⟩,⟨some 24,.mov (.s 35),none⟩]
@[reducible] def soft_Files_List.r10 : List MOp:=[⟨some 36,.mov (.s 5),none⟩,⟨some 37,.call false [] 236 [(.s 36),(.f 289)],none⟩]
@[reducible] def soft_Files_List.r11 : List MOp:=[⟨some 38,.mov (.s 5),none⟩,⟨some 4,.mov (.s 38),none⟩]
@[reducible] def soft_Files_List.body : MC:=(.seq (.reg false soft_Files_List.r0 [4]) (.seq (.reg false soft_Files_List.r1 []) (.seq (.seq (.reg false soft_Files_List.r2 [8,9,10,11,12]) (.cond (.s 13) (.seq (.reg false soft_Files_List.r3 []) .ret) .skip)) (.seq (.seq (.reg false soft_Files_List.r4 [0,1,14,15,16,17,18,19,20,21,22]) (.block 0 (.loop [5,23,24] [34] (.seq (.reg false soft_Files_List.r5 []) (.seq (.cond (.s 25) .skip (.exit 0)) (.seq (.block 1 (.seq (.reg false soft_Files_List.r6 [26]) (.seq (.reg false soft_Files_List.r7 [27,28]) (.cond (.s 29) (.reg false soft_Files_List.r8 [7,30,31,32,33,34]) .skip)))) (.reg false soft_Files_List.r9 [35]))))))) (.seq (.reg false soft_Files_List.r10 [36,37]) (.seq (.reg false soft_Files_List.r11 [5,38]) .ret))))))
@[reducible] def soft_Files_List : MFun:={ params:=2,nfree:=0,res:=[.tmp 4],body:=soft_Files_List.body }
@[reducible] def soft_Files_Do.r0 : List MOp:=[⟨some 3,.box false tStep (.s 1),none⟩,⟨some 4,.mov (.c (.int .i64 0)),none⟩]
@[reducible] def soft_Files_Do.r1 : List MOp:=[⟨some 9,.load false none tStep (.s 3),none⟩,⟨some 10,.call false [] 216 [(.s 9)],none⟩,⟨some 5,.mov (.s 10),none⟩]
@[reducible] def soft_Files_Do.r2 : List MOp:=[⟨some 11,.mov (.s 5),none⟩,⟨some 12,.bin .neq (.s 11) (.c (.int .i64 0)),none⟩]
@[reducible] def soft_Files_Do.r3 : List MOp:=[⟨some 13,.mov (.s 5),none⟩,⟨some 4,.mov (.s 13),none⟩]
@[reducible] def soft_Files_Do.r4 : List MOp:=[⟨some 14,.fld tStep 0 tI (.s 3),none⟩,⟨some 15,.load false none tI (.s 14),none⟩,⟨some 16,.bin .eql (.s 15) (.c (.int .i64 1)),none⟩]
@[reducible] def soft_Files_Do.r5 : List MOp:=[⟨some 17,.mov (.s 0),none⟩,⟨some 18,.fld tStep 1 tI (.s 3),none⟩,⟨some 19,.load false none tI (.s 18),none⟩,⟨some 20,.fld tStep 4 tS (.s 3),none⟩,⟨some 21,.load false none tS (.s 20),none⟩,⟨some 22,.call false [] 293 [(.s 17),(.s 19),(.s 21)],none⟩,⟨some 4,.mov (.s 22),none⟩]
@[reducible] def soft_Files_Do.r6 : List MOp:=[⟨some 23,.mov (.s 0),none⟩,⟨some 24,.nilck (.s 23),none⟩,⟨some 25,.fld tFiles 0 tP (.s 24),none⟩,⟨some 26,.load false none tP (.s 25),none⟩,⟨some 27,.nilck (.s 26),none⟩,⟨some 28,.fld tCache 0 tImage (.s 27),none⟩,⟨some 29,.fld tStep 1 tI (.s 3),none⟩,⟨some 30,.load false none tI (.s 29),none⟩,⟨some 31,.fld tStep 4 tS (.s 3),none⟩,⟨some 32,.load false none tS (.s 31),none⟩,⟨some 33,.call false [] 19 [(.s 28),(.s 30),(.s 32)],none⟩,⟨some 6,.mov (.s 33),none⟩]
@[reducible] def soft_Files_Do.r7 : List MOp:=[⟨some 34,.mov (.s 6),none⟩,⟨some 35,.bin .lss (.s 34) (.c (.int .i64 0)),none⟩]
@[reducible] def soft_Files_Do.r8 : List MOp:=[⟨some 4,.mov (.c (.int .i64 5)),none⟩]
@[reducible] def soft_Files_Do.r9 : List MOp:=[⟨some 36,.mov (.s 0),none⟩,⟨some 37,.nilck (.s 36),none⟩,⟨some 38,.fld tFiles 0 tP (.s 37),none⟩,⟨some 39,.load false none tP (.s 38),none⟩,⟨some 40,.fld tStep 1 tI (.s 3),none⟩,⟨some 41,.load false none tI (.s 40),none⟩,⟨some 42,.mov (.s 6),none⟩,⟨some 43,.nilck (.s 39),none⟩,⟨some 44,.fld tCache 0 tImage (.s 43),none⟩,⟨some 45,.fld tImage 1 tDirs (.s 44),none⟩,⟨some 46,.idx 3 tRow (.s 45) (.s 41),none⟩,⟨some 47,.idx 4 tEntry (.s 46) (.s 42),none⟩,⟨some 48,.fld tEntry 1 tI (.s 47),none⟩,⟨some 49,.load false none tI (.s 48),none⟩,⟨some 7,.mov (.s 49),none⟩]
@[reducible] def soft_Files_Do.r10 : List MOp:=[⟨some 50,.fld tStep 0 tI (.s 3),none⟩,⟨some 51,.load false none tI (.s 50),none⟩]
@[reducible] def soft_Files_Do.r11 : List MOp:=[⟨some 53,.bin .eql (.s 51) (.c (.int .i64 2)),none⟩,⟨some 52,.mov (.s 53),none⟩]
@[reducible] def soft_Files_Do.r12 : List MOp:=[⟨some 54,.mov (.s 0),none⟩,⟨some 55,.fld tStep 2 tI (.s 3),none⟩,⟨some 56,.load false none tI (.s 55),none⟩,⟨some 57,.fld tStep 5 tS (.s 3),none⟩,⟨some 58,.load false none tS (.s 57),none⟩,⟨some 59,.mov (.s 7),none⟩,⟨some 60,.call false [] 290 [(.s 54),(.s 56),(.s 58),(.s 59)],none⟩,⟨some 4,.mov (.s 60),none⟩]
@[reducible] def soft_Files_Do.r13 : List MOp:=[⟨some 62,.bin .eql (.s 51) (.c (.int .i64 4)),none⟩,⟨some 61,.mov (.s 62),none⟩]
@[reducible] def soft_Files_Do.r14 : List MOp:=[⟨some 63,.mov (.s 0),none⟩,⟨some 64,.fld tStep 2 tI (.s 3),none⟩,⟨some 65,.load false none tI (.s 64),none⟩,⟨some 66,.fld tStep 5 tS (.s 3),none⟩,⟨some 67,.load false none tS (.s 66),none⟩,⟨some 68,.mov (.s 7),none⟩,⟨some 69,.call false [] 290 [(.s 63),(.s 65),(.s 67),(.s 68)],none⟩,⟨some 8,.mov (.s 69),none⟩]
@[reducible] def soft_Files_Do.r15 : List MOp:=[⟨some 70,.mov (.s 8),none⟩,⟨some 71,.bin .neq (.s 70) (.c (.int .i64 0)),none⟩]
@[reducible] def soft_Files_Do.r16 : List MOp:=[⟨some 72,.mov (.s 8),none⟩,⟨some 4,.mov (.s 72),none⟩]
@[reducible] def soft_Files_Do.r17 : List MOp:=[⟨some 73,.mov (.s 0),none⟩,⟨some 74,.fld tStep 1 tI (.s 3),none⟩,⟨some 75,.load false none tI (.s 74),none⟩,⟨some 76,.mov (.s 6),none⟩,⟨some 77,.call false [] 291 [(.s 73),(.s 75),(.s 76)],none⟩]
@[reducible] def soft_Files_Do.r18 : List MOp:=[⟨some 79,.bin .eql (.s 51) (.c (.int .i64 3)),none⟩,⟨some 78,.mov (.s 79),none⟩]
@[reducible] def soft_Files_Do.r19 : List MOp:=[⟨some 80,.mov (.s 0),none⟩,⟨some 81,.fld tStep 1 tI (.s 3),none⟩,⟨some 82,.load false none tI (.s 81),none⟩,⟨some 83,.mov (.s 6),none⟩,⟨some 84,.call false [] 291 [(.s 80),(.s 82),(.s 83)],none⟩]
@[reducible] def soft_Files_Do.r20 : List MOp:=[⟨some 86,.bin .eql (.s 51) (.c (.int .i64 5)),none⟩,⟨some 85,.mov (.s 86),none⟩]
@[reducible] def soft_Files_Do.r21 : List MOp:=[⟨some 87,.mov (.s 0),none⟩,⟨some 88,.mov (.s 7),none⟩,⟨some 89,.fld tStep 3 tI (.s 3),none⟩,⟨some 90,.load false none tI (.s 89),none⟩,⟨some 91,.fld tStep 6 tS (.s 3),none⟩,⟨some 92,.load false none tS (.s 91),none⟩,⟨some 93,.call false [] 292 [(.s 87),(.s 88),(.s 90),(.s 92)],none⟩,⟨some 4,.mov (.s 93),none⟩]
@[reducible] def soft_Files_Do.r22 : List MOp:=[⟨some 95,.bin .eql (.s 51) (.c (.int .i64 6)),none⟩,⟨some 94,.mov (.s 95),none⟩]
@[reducible] def soft_Files_Do.r23 : List MOp:=[⟨some 96,.mov (.s 0),none⟩,⟨some 97,.nilck (.s 96),none⟩,⟨some 98,.fld tFiles 0 tP (.s 97),none⟩,⟨some 99,.load false none tP (.s 98),none⟩,⟨some 100,.mov (.s 7),none⟩,⟨some 101,.fld tStep 3 tI (.s 3),none⟩,⟨some 102,.load false none tI (.s 101),none⟩,⟨some 103,.nilck (.s 99),none⟩,⟨some 104,.fld tCache 0 tImage (.s 103),none⟩,⟨some 105,.fld tImage 0 tInodes (.s 104),none⟩,⟨some 106,.idx 8 tInode (.s 105) (.s 100),none⟩,⟨some 107,.fld tInode 3 tParts (.s 106),none⟩,⟨some 108,.idx 2 tI (.s 107) (.s 102),none⟩,⟨none,.store tI [] (.s 108) (.c (.int .i64 (-1))),none⟩]
@[reducible] def soft_Files_Do.r24 : List MOp:=[⟨some 4,.mov (.c (.int .i64 0)),none⟩]
@[reducible] def soft_Files_Do.body : MC:=(.seq (.reg false soft_Files_Do.r0 [1,4]) (.seq (.seq (.reg false soft_Files_Do.r1 [9,10]) (.seq (.reg false soft_Files_Do.r2 [11]) (.cond (.s 12) (.seq (.reg false soft_Files_Do.r3 [5,13]) .ret) .skip))) (.seq (.seq (.reg false soft_Files_Do.r4 [14,15]) (.cond (.s 16) (.seq (.reg false soft_Files_Do.r5 [0,3,17,18,19,20,21,22]) .ret) .skip)) (.seq (.reg true soft_Files_Do.r6 [23,24,25,26,27,28,29,30,31,32,33]) (.seq (.seq (.reg false soft_Files_Do.r7 [34]) (.cond (.s 35) (.seq (.reg false soft_Files_Do.r8 []) .ret) .skip)) (.seq (.reg true soft_Files_Do.r9 [36,37,38,39,40,41,42,43,44,45,46,47,48,49]) (.seq (.seq (.reg false soft_Files_Do.r10 [50]) (.block 0 (.seq (.reg false soft_Files_Do.r11 [53]) (.cond (.s 52) (.seq (.reg false soft_Files_Do.r12 [0,3,7,54,55,56,57,58,59,60]) .ret) (.seq (.reg false soft_Files_Do.r13 [62]) (.cond (.s 61) (.seq (.seq (.reg false soft_Files_Do.r14 [7,63,64,65,66,67,68,69]) (.seq (.reg false soft_Files_Do.r15 [70]) (.cond (.s 71) (.seq (.reg false soft_Files_Do.r16 [8,72]) .ret) .skip))) (.reg false soft_Files_Do.r17 [0,3,6,73,74,75,76,77])) (.seq (.reg false soft_Files_Do.r18 [79]) (.cond (.s 78) (.reg false soft_Files_Do.r19 [0,3,6,80,81,82,83,84]) (.seq (.reg false soft_Files_Do.r20 [86]) (.cond (.s 85) (.seq (.reg false soft_Files_Do.r21 [0,3,7,87,88,89,90,91,92,93]) .ret) (.seq (.reg false soft_Files_Do.r22 [51,95]) (.cond (.s 94) (.reg true soft_Files_Do.r23 [0,3,7,96,97,98,99,100,101,102,103,104,105,106,107,108]) .skip)))))))))))) (.seq (.reg false soft_Files_Do.r24 []) .ret))))))))
@[reducible] def soft_Files_Do : MFun:={ params:=2,nfree:=0,res:=[.tmp 4],body:=soft_Files_Do.body }
@[reducible] def soft_New.r0 : List MOp:=[⟨some 0,.mov (.c .nilp),none⟩]
@[reducible] def soft_New.r1 : List MOp:=[⟨some 1,.call false [] 231 [],none⟩,⟨some 2,.build tFiles [(0,(.s 1))],none⟩,⟨some 3,.box true tFiles (.s 2),none⟩,⟨some 0,.mov (.s 3),none⟩]
@[reducible] def soft_New.body : MC:=(.seq (.reg false soft_New.r0 [0]) (.seq (.reg false soft_New.r1 [1,2,3]) .ret))
@[reducible] def soft_New : MFun:={ params:=0,nfree:=0,res:=[.tmp 0],body:=soft_New.body }
@[reducible] def life_Life_Step.r0 : List MOp:=[⟨some 3,.box false tStep (.s 1),none⟩,⟨some 4,.mov (.c (.int .i64 0)),none⟩]
@[reducible] def life_Life_Step.r1 : List MOp:=[⟨some 5,.fld tStep 0 tI (.s 3),none⟩,⟨some 6,.load false none tI (.s 5),none⟩]
@[reducible] def life_Life_Step.r2 : List MOp:=[⟨some 8,.bin .eql (.s 6) (.c (.int .i64 7)),none⟩,⟨some 7,.mov (.s 8),none⟩]
@[reducible] def life_Life_Step.r3 : List MOp:=[⟨some 9,.mov (.s 0),none⟩,⟨some 10,.nilck (.s 9),none⟩,⟨some 11,.fld tLife 0 tP (.s 10),none⟩,⟨some 12,.load false none tP (.s 11),none⟩,⟨some 13,.nilck (.s 12),none⟩,⟨some 14,.fld tFiles 0 tP (.s 13),none⟩,⟨some 15,.load false none tP (.s 14),none⟩,⟨some 16,.fld tStep 3 tI (.s 3),none⟩,⟨some 17,.load false none tI (.s 16),none⟩,⟨some 18,.call false [] 212 [(.s 15),(.s 17)],none⟩,⟨some 19,.un .not (.s 18),none⟩]
@[reducible] def life_Life_Step.r4 : List MOp:=[⟨some 4,.mov (.c (.int .i64 1)),none⟩]
@[reducible] def life_Life_Step.r5 : List MOp:=[⟨some 4,.mov (.c (.int .i64 0)),none⟩]
@[reducible] def life_Life_Step.r6 : List MOp:=[⟨some 21,.bin .eql (.s 6) (.c (.int .i64 8)),none⟩,⟨some 20,.mov (.s 21),none⟩]
@[reducible] def life_Life_Step.r7 : List MOp:=[⟨some 22,.mov (.s 0),none⟩,⟨some 23,.nilck (.s 22),none⟩,⟨some 24,.fld tLife 0 tP (.s 23),none⟩,⟨some 25,.load false none tP (.s 24),none⟩,⟨some 26,.nilck (.s 25),none⟩,⟨some 27,.fld tFiles 0 tP (.s 26),none⟩,⟨some 28,.load false none tP (.s 27),none⟩,⟨some 29,.call false [] 201 [(.s 28)],none⟩]
@[reducible] def life_Life_Step.r8 : List MOp:=[⟨some 4,.mov (.c (.int .i64 0)),none⟩]
@[reducible] def life_Life_Step.r9 : List MOp:=[⟨some 31,.bin .eql (.s 6) (.c (.int .i64 9)),none⟩,⟨some 30,.mov (.s 31),none⟩]
@[reducible] def life_Life_Step.r10 : List MOp:=[⟨some 32,.mov (.s 0),none⟩,⟨some 33,.call false [] 294 [(.s 32)],none⟩,⟨some 4,.mov (.s 33),none⟩]
@[reducible] def life_Life_Step.r11 : List MOp:=[⟨some 34,.mov (.s 0),none⟩,⟨some 35,.nilck (.s 34),none⟩,⟨some 36,.fld tLife 0 tP (.s 35),none⟩,⟨some 37,.load false none tP (.s 36),none⟩,⟨some 38,.load false none tStep (.s 3),none⟩,⟨some 39,.call false [] 275 [(.s 37),(.s 38)],none⟩,⟨some 4,.mov (.s 39),none⟩]
@[reducible] def life_Life_Step.body : MC:=(.seq (.reg false life_Life_Step.r0 [1,4]) (.seq (.seq (.reg false life_Life_Step.r1 [5]) (.block 0 (.seq (.reg false life_Life_Step.r2 [8]) (.cond (.s 7) (.seq (.seq (.reg true life_Life_Step.r3 [0,3,9,10,11,12,13,14,15,16,17,18]) (.cond (.s 19) (.seq (.reg false life_Life_Step.r4 []) .ret) .skip)) (.seq (.reg false life_Life_Step.r5 []) .ret)) (.seq (.reg false life_Life_Step.r6 [21]) (.cond (.s 20) (.seq (.reg false life_Life_Step.r7 [0,22,23,24,25,26,27,28,29]) (.seq (.reg false life_Life_Step.r8 []) .ret)) (.seq (.reg false life_Life_Step.r9 [6,31]) (.cond (.s 30) (.seq (.reg false life_Life_Step.r10 [0,32,33]) .ret) .skip)))))))) (.seq (.reg true life_Life_Step.r11 [0,3,34,35,36,37,38,39]) .ret)))
@[reducible] def life_Life_Step : MFun:={ params:=2,nfree:=0,res:=[.tmp 4],body:=life_Life_Step.body }
@[reducible] def life_Life_Crashes.r0 : List MOp:=[⟨some 2,.mov (.c (.int .i64 0)),none⟩]
@[reducible] def life_Life_Crashes.r1 : List MOp:=[⟨some 3,.mov (.s 0),none⟩,⟨some 4,.nilck (.s 3),none⟩,⟨some 5,.fld tLife 2 tI (.s 4),none⟩,⟨some 6,.load false none tI (.s 5),none⟩,⟨some 2,.mov (.s 6),none⟩]
@[reducible] def life_Life_Crashes.body : MC:=(.seq (.reg false life_Life_Crashes.r0 [2]) (.seq (.reg false life_Life_Crashes.r1 [0,3,4,5,6]) .ret))
@[reducible] def life_Life_Crashes : MFun:={ params:=1,nfree:=0,res:=[.tmp 2],body:=life_Life_Crashes.body }
@[reducible] def life_Life_Lost.r0 : List MOp:=[⟨some 2,.alloc false tLost,none⟩]
@[reducible] def life_Life_Lost.r1 : List MOp:=[⟨some 3,.mov (.s 0),none⟩,⟨some 4,.nilck (.s 3),none⟩,⟨some 5,.fld tLife 1 tLost (.s 4),none⟩,⟨some 6,.load false none tLost (.s 5),none⟩,⟨none,.store tLost [] (.s 2) (.s 6),none⟩]
@[reducible] def life_Life_Lost.body : MC:=(.seq (.reg false life_Life_Lost.r0 []) (.seq (.reg false life_Life_Lost.r1 [0,3,4,5,6]) .ret))
@[reducible] def life_Life_Lost : MFun:={ params:=1,nfree:=0,res:=[.cell 2 tLost],body:=life_Life_Lost.body }
@[reducible] def life_New.r0 : List MOp:=[⟨some 0,.mov (.c .nilp),none⟩]
@[reducible] def life_New.r1 : List MOp:=[⟨some 1,.call false [] 276 [],none⟩,⟨some 2,.build tLife [(0,(.s 1))],none⟩,⟨some 3,.box true tLife (.s 2),none⟩,⟨some 0,.mov (.s 3),none⟩]
@[reducible] def life_New.body : MC:=(.seq (.reg false life_New.r0 [0]) (.seq (.reg false life_New.r1 [1,2,3]) .ret))
@[reducible] def life_New : MFun:={ params:=0,nfree:=0,res:=[.tmp 0],body:=life_New.body }
@[reducible] def w_lifeBegun.r0 : List MOp:=[⟨some 0,.mov (.c (.bool false)),none⟩]
@[reducible] def w_lifeBegun.r1 : List MOp:=[⟨some 6,.call false [] 285 [],none⟩,⟨some 1,.mov (.s 6),none⟩]
@[reducible] def w_lifeBegun.r2 : List MOp:=[⟨some 7,.mov (.s 1),none⟩,⟨some 8,.eq false tP (.s 7) (.c .nilp),none⟩]
@[reducible] def w_lifeBegun.r3 : List MOp:=[⟨some 0,.mov (.c (.bool false)),none⟩]
@[reducible] def w_lifeBegun.r4 : List MOp:=[⟨some 9,.mov (.s 1),none⟩,⟨some 10,.build tStep [(0,(.c (.int .i64 1))),(4,(.c (.str ⟨#[97]⟩)))],none⟩,⟨some 11,.call false [] 281 [(.s 9),(.s 10)],none⟩,⟨some 2,.mov (.s 11),none⟩]
@[reducible] def w_lifeBegun.r5 : List MOp:=[⟨some 12,.mov (.s 1),none⟩,⟨some 13,.build tStep [(0,(.c (.int .i64 8)))],none⟩,⟨some 14,.call false [] 281 [(.s 12),(.s 13)],none⟩,⟨some 3,.mov (.s 14),none⟩]
@[reducible] def w_lifeBegun.r6 : List MOp:=[⟨some 15,.mov (.s 1),none⟩,⟨some 16,.build tStep [(0,(.c (.int .i64 1))),(4,(.c (.str ⟨#[98]⟩)))],none⟩,⟨some 17,.call false [] 281 [(.s 15),(.s 16)],none⟩]
@[reducible] def w_lifeBegun.r7 : List MOp:=[⟨some 18,.mov (.s 1),none⟩,⟨some 19,.build tStep [(0,(.c (.int .i64 7)))],none⟩,⟨some 20,.call false [] 281 [(.s 18),(.s 19)],none⟩,⟨some 4,.mov (.s 20),none⟩]
@[reducible] def w_lifeBegun.r8 : List MOp:=[⟨some 21,.mov (.s 1),none⟩,⟨some 22,.build tStep [(0,(.c (.int .i64 9)))],none⟩,⟨some 23,.call false [] 281 [(.s 21),(.s 22)],none⟩,⟨some 5,.mov (.s 23),none⟩]
@[reducible] def w_lifeBegun.r9 : List MOp:=[⟨some 24,.mov (.s 2),none⟩,⟨some 25,.bin .eql (.s 24) (.c (.int .i64 0)),none⟩,⟨some 26,.mov (.s 25),none⟩,⟨some 27,.mov (.s 3),some (26,true)⟩,⟨some 28,.bin .eql (.s 27) (.c (.int .i64 0)),some (26,true)⟩,⟨some 29,.pick (.s 26) (.s 28) (.c (.bool false)),none⟩,⟨some 30,.mov (.s 29),none⟩,⟨some 31,.mov (.s 4),some (30,true)⟩,⟨some 32,.bin .eql (.s 31) (.c (.int .i64 0)),some (30,true)⟩,⟨some 33,.pick (.s 30) (.s 32) (.c (.bool false)),none⟩,⟨some 34,.mov (.s 33),none⟩,⟨some 35,.mov (.s 5),some (34,true)⟩,⟨some 36,.bin .eql (.s 35) (.c (.int .i64 0)),some (34,true)⟩,⟨some 37,.pick (.s 34) (.s 36) (.c (.bool false)),none⟩,⟨some 38,.mov (.s 37),none⟩,⟨some 39,.mov (.s 1),some (38,true)⟩,⟨some 40,.nilck (.s 39),some (38,true)⟩,⟨some 41,.fld tLife 0 tP (.s 40),some (38,true)⟩,⟨some 42,.load false none tP (.s 41),some (38,true)⟩,⟨some 43,.call false [] 272 [(.s 42),(.c (.int .i64 0))],some (38,true)⟩,⟨some 44,.bslice false tS 1 [(0,(.c (.str ⟨#[97]⟩)))],some (38,true)⟩,⟨some 45,.call false [] 224 [(.s 43),(.s 44)],some (38,true)⟩,⟨some 46,.pick (.s 38) (.s 45) (.c (.bool false)),none⟩,⟨some 47,.mov (.s 46),none⟩,⟨some 48,.mov (.s 1),some (47,true)⟩,⟨some 49,.call false [] 283 [(.s 48)],some (47,true)⟩,⟨some 50,.bin .eql (.s 49) (.c (.int .i64 1)),some (47,true)⟩,⟨some 51,.pick (.s 47) (.s 50) (.c (.bool false)),none⟩,⟨some 52,.mov (.s 51),none⟩,⟨some 53,.mov (.s 1),some (52,true)⟩,⟨some 54,.call false [] 284 [(.s 53)],some (52,true)⟩,⟨some 55,.build tLost [(0,(.c (.int .i64 1)))],some (52,true)⟩,⟨some 56,.eq false tLost (.s 54) (.s 55),some (52,true)⟩,⟨some 57,.pick (.s 52) (.s 56) (.c (.bool false)),none⟩,⟨some 58,.mov (.s 57),none⟩,⟨some 59,.mov (.s 1),some (58,true)⟩,⟨some 60,.build tStep [(0,(.c (.int .i64 7))),(3,(.c (.int .i64 99)))],some (58,true)⟩,⟨some 61,.call false [] 281 [(.s 59),(.s 60)],some (58,true)⟩,⟨some 62,.bin .eql (.s 61) (.c (.int .i64 1)),some (58,true)⟩,⟨some 63,.pick (.s 58) (.s 62) (.c (.bool false)),none⟩,⟨some 0,.mov (.s 63),none⟩]
@[reducible] def w_lifeBegun.body : MC:=(.seq (.reg false w_lifeBegun.r0 [0]) (.seq (.reg false w_lifeBegun.r1 [6]) (.seq (.seq (.reg false w_lifeBegun.r2 [7]) (.cond (.s 8) (.seq (.reg false w_lifeBegun.r3 []) .ret) .skip)) (.seq (.reg false w_lifeBegun.r4 [9,10,11]) (.seq (.reg false w_lifeBegun.r5 [12,13,14]) (.seq (.reg false w_lifeBegun.r6 [15,16,17]) (.seq (.reg false w_lifeBegun.r7 [18,19,20]) (.seq (.reg false w_lifeBegun.r8 [21,22,23]) (.seq (.reg false w_lifeBegun.r9 [1,2,3,4,5,24,25,26,27,28,29,30,31,32,33,34,35,36,37,38,39,40,41,42,43,44,45,46,47,48,49,50,51,52,53,54,55,56,57,58,59,60,61,62,63]) .ret)))))))))
@[reducible] def w_lifeBegun : MFun:={ params:=0,nfree:=0,res:=[.tmp 0],body:=w_lifeBegun.body }
@[reducible] def soft_Files_List_1.r0 : List MOp:=[⟨some 4,.mov (.c (.int .i64 0)),none⟩]
@[reducible] def soft_Files_List_1.r1 : List MOp:=[⟨some 5,.mov (.s 0),none⟩,⟨some 6,.mov (.s 1),none⟩,⟨some 7,.call false [] 242 [(.s 5),(.s 6)],none⟩,⟨some 4,.mov (.s 7),none⟩]
@[reducible] def soft_Files_List_1.body : MC:=(.seq (.reg false soft_Files_List_1.r0 [4]) (.seq (.reg false soft_Files_List_1.r1 [0,1,5,6,7]) .ret))
@[reducible] def soft_Files_List_1 : MFun:={ params:=2,nfree:=0,res:=[.tmp 4],body:=soft_Files_List_1.body }
@[reducible] def soft_Files_enter.r0 : List MOp:=[⟨some 8,.mov (.c (.int .i64 0)),none⟩]
@[reducible] def soft_Files_enter.r1 : List MOp:=[⟨some 10,.mov (.s 0),none⟩,⟨some 11,.nilck (.s 10),none⟩,⟨some 12,.fld tFiles 0 tP (.s 11),none⟩,⟨some 13,.load false none tP (.s 12),none⟩,⟨some 14,.nilck (.s 13),none⟩,⟨some 15,.fld tCache 0 tImage (.s 14),none⟩,⟨some 16,.mov (.s 1),none⟩,⟨some 17,.mov (.s 2),none⟩,⟨some 18,.call false [] 19 [(.s 15),(.s 16),(.s 17)],none⟩,⟨some 19,.bin .geq (.s 18) (.c (.int .i64 0)),none⟩]
@[reducible] def soft_Files_enter.r2 : List MOp:=[⟨some 8,.mov (.c (.int .i64 4)),none⟩]
@[reducible] def soft_Files_enter.r3 : List MOp:=[⟨some 20,.mov (.s 0),none⟩,⟨some 21,.mov (.s 1),none⟩,⟨some 22,.mov (.s 2),none⟩,⟨some 23,.call false [] 297 [(.s 20),(.s 21),(.s 22)],none⟩,⟨some 9,.mov (.s 23),none⟩]
@[reducible] def soft_Files_enter.r4 : List MOp:=[⟨some 24,.mov (.s 9),none⟩,⟨some 25,.bin .lss (.s 24) (.c (.int .i64 0)),none⟩]
@[reducible] def soft_Files_enter.r5 : List MOp:=[⟨some 8,.mov (.c (.int .i64 6)),none⟩]
@[reducible] def soft_Files_enter.r6 : List MOp:=[⟨some 26,.mov (.s 0),none⟩,⟨some 27,.nilck (.s 26),none⟩,⟨some 28,.fld tFiles 0 tP (.s 27),none⟩,⟨some 29,.load false none tP (.s 28),none⟩,⟨some 30,.mov (.s 1),none⟩,⟨some 31,.mov (.s 9),none⟩,⟨some 32,.mov (.s 2),none⟩,⟨some 33,.mov (.s 3),none⟩,⟨some 34,.mov (.s 0),none⟩,⟨some 35,.nilck (.s 34),none⟩,⟨some 36,.fld tFiles 0 tP (.s 35),none⟩,⟨some 37,.load false none tP (.s 36),none⟩,⟨some 38,.mov (.s 3),none⟩,⟨some 39,.nilck (.s 37),none⟩,⟨some 40,.fld tCache 0 tImage (.s 39),none⟩,⟨some 41,.fld tImage 0 tInodes (.s 40),none⟩,⟨some 42,.idx 8 tInode (.s 41) (.s 38),none⟩,⟨some 43,.fld tInode 1 tI (.s 42),none⟩,⟨some 44,.load false none tI (.s 43),none⟩,⟨some 45,.build tEntry [(0,(.s 32)),(1,(.s 33)),(2,(.s 44))],none⟩,⟨some 46,.nilck (.s 29),none⟩,⟨some 47,.fld tCache 0 tImage (.s 46),none⟩,⟨some 48,.fld tImage 1 tDirs (.s 47),none⟩,⟨some 49,.idx 3 tRow (.s 48) (.s 30),none⟩,⟨some 50,.idx 4 tEntry (.s 49) (.s 31),none⟩,⟨none,.store tEntry [] (.s 50) (.s 45),none⟩]
@[reducible] def soft_Files_enter.r7 : List MOp:=[⟨some 51,.mov (.s 0),none⟩,⟨some 52,.nilck (.s 51),none⟩,⟨some 53,.fld tFiles 0 tP (.s 52),none⟩,⟨some 54,.load false none tP (.s 53),none⟩,⟨some 55,.mov (.s 3),none⟩,⟨some 56,.nilck (.s 54),none⟩,⟨some 57,.fld tCache 0 tImage (.s 56),none⟩,⟨some 58,.fld tImage 0 tInodes (.s 57),none⟩,⟨some 59,.idx 8 tInode (.s 58) (.s 55),none⟩,⟨some 60,.fld tInode 2 tI (.s 59),none⟩,⟨some 61,.load false none tI (.s 60),none⟩,⟨some 62,.bin .add (.s 61) (.c (.int .i64 1)),none⟩,⟨some 63,.nilck (.s 54),none⟩,⟨some 64,.fld tCache 0 tImage (.s 63),none⟩,⟨some 65,.fld tImage 0 tInodes (.s 64),none⟩,⟨some 66,.idx 8 tInode (.s 65) (.s 55),none⟩,⟨some 67,.fld tInode 2 tI (.s 66),none⟩,⟨none,.store tI [] (.s 67) (.s 62),none⟩]
@[reducible] def soft_Files_enter.r8 : List MOp:=[⟨some 8,.mov (.c (.int .i64 0)),none⟩]
@[reducible] def soft_Files_enter.body : MC:=(.seq (.reg false soft_Files_enter.r0 [8]) (.seq (.seq (.reg false soft_Files_enter.r1 [10,11,12,13,14,15,16,17,18]) (.cond (.s 19) (.seq (.reg false soft_Files_enter.r2 []) .ret) .skip)) (.seq (.reg false soft_Files_enter.r3 [20,21,22,23]) (.seq (.seq (.reg false soft_Files_enter.r4 [24]) (.cond (.s 25) (.seq (.reg false soft_Files_enter.r5 []) .ret) .skip)) (.seq (.reg true soft_Files_enter.r6 [1,2,9,26,27,28,29,30,31,32,33,34,35,36,37,38,39,40,41,42,43,44,45,46,47,48,49,50]) (.seq (.reg true soft_Files_enter.r7 [0,3,51,52,53,54,55,56,57,58,59,60,61,62,63,64,65,66,67]) (.seq (.reg false soft_Files_enter.r8 []) .ret)))))))
@[reducible] def soft_Files_enter : MFun:={ params:=4,nfree:=0,res:=[.tmp 8],body:=soft_Files_enter.body }
@[reducible] def soft_Files_leave.r0 : List MOp:=[⟨some 7,.mov (.s 0),none⟩,⟨some 8,.nilck (.s 7),none⟩,⟨some 9,.fld tFiles 0 tP (.s 8),none⟩,⟨some 10,.load false none tP (.s 9),none⟩,⟨some 11,.mov (.s 1),none⟩,⟨some 12,.mov (.s 2),none⟩,⟨some 13,.nilck (.s 10),none⟩,⟨some 14,.fld tCache 0 tImage (.s 13),none⟩,⟨some 15,.fld tImage 1 tDirs (.s 14),none⟩,⟨some 16,.idx 3 tRow (.s 15) (.s 11),none⟩,⟨some 17,.idx 4 tEntry (.s 16) (.s 12),none⟩,⟨some 18,.fld tEntry 1 tI (.s 17),none⟩,⟨some 19,.load false none tI (.s 18),none⟩,⟨some 6,.mov (.s 19),none⟩]
@[reducible] def soft_Files_leave.r1 : List MOp:=[⟨some 20,.mov (.s 0),none⟩,⟨some 21,.nilck (.s 20),none⟩,⟨some 22,.fld tFiles 0 tP (.s 21),none⟩,⟨some 23,.load false none tP (.s 22),none⟩,⟨some 24,.mov (.s 1),none⟩,⟨some 25,.mov (.s 2),none⟩,⟨some 26,.build tEntry [],none⟩,⟨some 27,.nilck (.s 23),none⟩,⟨some 28,.fld tCache 0 tImage (.s 27),none⟩,⟨some 29,.fld tImage 1 tDirs (.s 28),none⟩,⟨some 30,.idx 3 tRow (.s 29) (.s 24),none⟩,⟨some 31,.idx 4 tEntry (.s 30) (.s 25),none⟩,⟨none,.store tEntry [] (.s 31) (.s 26),none⟩]
@[reducible] def soft_Files_leave.r2 : List MOp:=[⟨some 32,.mov (.s 0),none⟩,⟨some 33,.nilck (.s 32),none⟩,⟨some 34,.fld tFiles 0 tP (.s 33),none⟩,⟨some 35,.load false none tP (.s 34),none⟩,⟨some 36,.mov (.s 6),none⟩,⟨some 37,.nilck (.s 35),none⟩,⟨some 38,.fld tCache 0 tImage (.s 37),none⟩,⟨some 39,.fld tImage 0 tInodes (.s 38),none⟩,⟨some 40,.idx 8 tInode (.s 39) (.s 36),none⟩,⟨some 41,.fld tInode 2 tI (.s 40),none⟩,⟨some 42,.load false none tI (.s 41),none⟩,⟨some 43,.bin .sub (.s 42) (.c (.int .i64 1)),none⟩,⟨some 44,.nilck (.s 35),none⟩,⟨some 45,.fld tCache 0 tImage (.s 44),none⟩,⟨some 46,.fld tImage 0 tInodes (.s 45),none⟩,⟨some 47,.idx 8 tInode (.s 46) (.s 36),none⟩,⟨some 48,.fld tInode 2 tI (.s 47),none⟩,⟨none,.store tI [] (.s 48) (.s 43),none⟩]
@[reducible] def soft_Files_leave.r3 : List MOp:=[⟨some 49,.mov (.s 0),none⟩,⟨some 50,.nilck (.s 49),none⟩,⟨some 51,.fld tFiles 0 tP (.s 50),none⟩,⟨some 52,.load false none tP (.s 51),none⟩,⟨some 53,.mov (.s 6),none⟩,⟨some 54,.nilck (.s 52),none⟩,⟨some 55,.fld tCache 0 tImage (.s 54),none⟩,⟨some 56,.fld tImage 0 tInodes (.s 55),none⟩,⟨some 57,.idx 8 tInode (.s 56) (.s 53),none⟩,⟨some 58,.fld tInode 2 tI (.s 57),none⟩,⟨some 59,.load false none tI (.s 58),none⟩,⟨some 60,.bin .eql (.s 59) (.c (.int .i64 0)),none⟩]
@[reducible] def soft_Files_leave.r4 : List MOp:=[⟨some 61,.mov (.s 0),none⟩,⟨some 62,.nilck (.s 61),none⟩,⟨some 63,.fld tFiles 0 tP (.s 62),none⟩,⟨some 64,.load false none tP (.s 63),none⟩,⟨some 65,.mov (.s 6),none⟩,⟨some 66,.call true [] 33 [],none⟩,⟨some 67,.nilck (.s 64),none⟩,⟨some 68,.fld tCache 0 tImage (.s 67),none⟩,⟨some 69,.fld tImage 0 tInodes (.s 68),none⟩,⟨some 70,.idx 8 tInode (.s 69) (.s 65),none⟩,⟨none,.store tInode [] (.s 70) (.s 66),none⟩]
@[reducible] def soft_Files_leave.body : MC:=(.seq (.reg false soft_Files_leave.r0 [7,8,9,10,11,12,13,14,15,16,17,18,19]) (.seq (.reg false soft_Files_leave.r1 [1,2,20,21,22,23,24,25,26,27,28,29,30,31]) (.seq (.reg true soft_Files_leave.r2 [32,33,34,35,36,37,38,39,40,41,42,43,44,45,46,47,48]) (.seq (.reg false soft_Files_leave.r3 [49,50,51,52,53,54,55,56,57,58,59]) (.cond (.s 60) (.reg true soft_Files_leave.r4 [0,6,61,62,63,64,65,66,67,68,69,70]) .skip)))))
@[reducible] def soft_Files_leave : MFun:={ params:=3,nfree:=0,res:=[],body:=soft_Files_leave.body }
@[reducible] def soft_Files_put.r0 : List MOp:=[⟨some 8,.mov (.c (.int .i64 0)),none⟩]
@[reducible] def soft_Files_put.r1 : List MOp:=[⟨some 11,.mov (.s 0),none⟩,⟨some 12,.nilck (.s 11),none⟩,⟨some 13,.fld tFiles 0 tP (.s 12),none⟩,⟨some 14,.load false none tP (.s 13),none⟩,⟨some 15,.mov (.s 1),none⟩,⟨some 16,.nilck (.s 14),none⟩,⟨some 17,.fld tCache 0 tImage (.s 16),none⟩,⟨some 18,.fld tImage 0 tInodes (.s 17),none⟩,⟨some 19,.idx 8 tInode (.s 18) (.s 15),none⟩,⟨some 9,.mov (.s 19),none⟩]
@[reducible] def soft_Files_put.r2 : List MOp:=[⟨some 20,.mov (.s 9),none⟩,⟨some 21,.mov (.s 2),none⟩,⟨some 22,.nilck (.s 20),none⟩,⟨some 23,.fld tInode 3 tParts (.s 22),none⟩,⟨some 24,.idx 2 tI (.s 23) (.s 21),none⟩,⟨some 25,.load false none tI (.s 24),none⟩,⟨some 26,.bin .lss (.s 25) (.c (.int .i64 0)),none⟩]
@[reducible] def soft_Files_put.r3 : List MOp:=[⟨some 27,.mov (.s 0),none⟩,⟨some 28,.nilck (.s 27),none⟩,⟨some 29,.fld tFiles 0 tP (.s 28),none⟩,⟨some 30,.load false none tP (.s 29),none⟩,⟨some 31,.call false [] 209 [(.s 30)],none⟩,⟨some 10,.mov (.s 31),none⟩]
@[reducible] def soft_Files_put.r4 : List MOp:=[⟨some 32,.mov (.s 10),none⟩,⟨some 33,.bin .lss (.s 32) (.c (.int .i64 0)),none⟩]
@[reducible] def soft_Files_put.r5 : List MOp:=[⟨some 8,.mov (.c (.int .i64 6)),none⟩]
@[reducible] def soft_Files_put.r6 : List MOp:=[⟨some 34,.mov (.s 9),none⟩,⟨some 35,.mov (.s 2),none⟩,⟨some 36,.mov (.s 10),none⟩,⟨some 37,.nilck (.s 34),none⟩,⟨some 38,.fld tInode 3 tParts (.s 37),none⟩,⟨some 39,.idx 2 tI (.s 38) (.s 35),none⟩,⟨none,.store tI [] (.s 39) (.s 36),none⟩]
@[reducible] def soft_Files_put.r7 : List MOp:=[⟨some 40,.mov (.s 0),none⟩,⟨some 41,.nilck (.s 40),none⟩,⟨some 42,.fld tFiles 0 tP (.s 41),none⟩,⟨some 43,.load false none tP (.s 42),none⟩,⟨some 44,.mov (.s 9),none⟩,⟨some 45,.mov (.s 2),none⟩,⟨some 46,.nilck (.s 44),none⟩,⟨some 47,.fld tInode 3 tParts (.s 46),none⟩,⟨some 48,.idx 2 tI (.s 47) (.s 45),none⟩,⟨some 49,.load false none tI (.s 48),none⟩,⟨some 50,.mov (.s 9),none⟩,⟨some 51,.nilck (.s 50),none⟩,⟨some 52,.fld tInode 1 tI (.s 51),none⟩,⟨some 53,.load false none tI (.s 52),none⟩,⟨some 54,.mov (.s 3),none⟩,⟨some 55,.build tData [(0,(.s 53)),(1,(.s 54))],none⟩,⟨some 56,.nilck (.s 43),none⟩,⟨some 57,.fld tCache 0 tImage (.s 56),none⟩,⟨some 58,.fld tImage 2 tDatas (.s 57),none⟩,⟨some 59,.idx 9 tData (.s 58) (.s 49),none⟩,⟨none,.store tData [] (.s 59) (.s 55),none⟩]
@[reducible] def soft_Files_put.r8 : List MOp:=[⟨some 8,.mov (.c (.int .i64 0)),none⟩]
@[reducible] def soft_Files_put.body : MC:=(.seq (.reg false soft_Files_put.r0 [8]) (.seq (.reg false soft_Files_put.r1 [1,11,12,13,14,15,16,17,18,19]) (.seq (.seq (.reg false soft_Files_put.r2 [20,21,22,23,24,25]) (.cond (.s 26) (.seq (.reg false soft_Files_put.r3 [27,28,29,30,31]) (.seq (.seq (.reg false soft_Files_put.r4 [32]) (.cond (.s 33) (.seq (.reg false soft_Files_put.r5 []) .ret) .skip)) (.reg false soft_Files_put.r6 [10,34,35,36,37,38,39]))) .skip)) (.seq (.reg true soft_Files_put.r7 [0,2,3,9,40,41,42,43,44,45,46,47,48,49,50,51,52,53,54,55,56,57,58,59]) (.seq (.reg false soft_Files_put.r8 []) .ret)))))
@[reducible] def soft_Files_put : MFun:={ params:=4,nfree:=0,res:=[.tmp 8],body:=soft_Files_put.body }
@[reducible] def soft_Files_make.r0 : List MOp:=[⟨some 6,.mov (.c (.int .i64 0)),none⟩]
@[reducible] def soft_Files_make.r1 : List MOp:=[⟨some 8,.mov (.s 0),none⟩,⟨some 9,.nilck (.s 8),none⟩,⟨some 10,.fld tFiles 0 tP (.s 9),none⟩,⟨some 11,.load false none tP (.s 10),none⟩,⟨some 12,.nilck (.s 11),none⟩,⟨some 13,.fld tCache 0 tImage (.s 12),none⟩,⟨some 14,.mov (.s 1),none⟩,⟨some 15,.mov (.s 2),none⟩,⟨some 16,.call false [] 19 [(.s 13),(.s 14),(.s 15)],none⟩,⟨some 17,.bin .geq (.s 16) (.c (.int .i64 0)),none⟩]
@[reducible] def soft_Files_make.r2 : List MOp:=[⟨some 6,.mov (.c (.int .i64 4)),none⟩]
@[reducible] def soft_Files_make.r3 : List MOp:=[⟨some 18,.mov (.s 0),none⟩,⟨some 19,.nilck (.s 18),none⟩,⟨some 20,.fld tFiles 0 tP (.s 19),none⟩,⟨some 21,.load false none tP (.s 20),none⟩,⟨some 22,.call false [] 205 [(.s 21)],none⟩,⟨some 7,.mov (.s 22),none⟩]
@[reducible] def soft_Files_make.r4 : List MOp:=[⟨some 23,.mov (.s 7),none⟩,⟨some 24,.bin .lss (.s 23) (.c (.int .i64 0)),none⟩,⟨some 25,.mov (.s 24),none⟩,⟨some 26,.mov (.s 0),some (25,false)⟩,⟨some 27,.mov (.s 1),some (25,false)⟩,⟨some 28,.mov (.s 2),some (25,false)⟩,⟨some 29,.call false [] 297 [(.s 26),(.s 27),(.s 28)],some (25,false)⟩,⟨some 30,.bin .lss (.s 29) (.c (.int .i64 0)),some (25,false)⟩,⟨some 31,.pick (.s 25) (.c (.bool true)) (.s 30),none⟩]
@[reducible] def soft_Files_make.r5 : List MOp:=[⟨some 6,.mov (.c (.int .i64 6)),none⟩]
@[reducible] def soft_Files_make.r6 : List MOp:=[⟨some 32,.mov (.s 0),none⟩,⟨some 33,.nilck (.s 32),none⟩,⟨some 34,.fld tFiles 1 tI (.s 33),none⟩,⟨some 35,.load false none tI (.s 34),none⟩,⟨some 36,.bin .add (.s 35) (.c (.int .i64 1)),none⟩,⟨some 37,.nilck (.s 32),none⟩,⟨some 38,.fld tFiles 1 tI (.s 37),none⟩,⟨none,.store tI [] (.s 38) (.s 36),none⟩]
@[reducible] def soft_Files_make.r7 : List MOp:=[⟨some 39,.mov (.s 0),none⟩,⟨some 40,.nilck (.s 39),none⟩,⟨some 41,.fld tFiles 0 tP (.s 40),none⟩,⟨some 42,.load false none tP (.s 41),none⟩,⟨some 43,.mov (.s 7),none⟩,⟨some 44,.call true [] 33 [],none⟩,⟨some 45,.nilck (.s 42),none⟩,⟨some 46,.fld tCache 0 tImage (.s 45),none⟩,⟨some 47,.fld tImage 0 tInodes (.s 46),none⟩,⟨some 48,.idx 8 tInode (.s 47) (.s 43),none⟩,⟨none,.store tInode [] (.s 48) (.s 44),none⟩]
@[reducible] def soft_Files_make.r8 : List MOp:=[⟨some 49,.mov (.s 0),none⟩,⟨some 50,.nilck (.s 49),none⟩,⟨some 51,.fld tFiles 0 tP (.s 50),none⟩,⟨some 52,.load false none tP (.s 51),none⟩,⟨some 53,.mov (.s 7),none⟩,⟨some 54,.mov (.s 0),none⟩,⟨some 55,.nilck (.s 54),none⟩,⟨some 56,.fld tFiles 0 tP (.s 55),none⟩,⟨some 57,.load false none tP (.s 56),none⟩,⟨some 58,.mov (.s 7),none⟩,⟨some 59,.mov (.s 0),none⟩,⟨some 60,.nilck (.s 59),none⟩,⟨some 61,.fld tFiles 1 tI (.s 60),none⟩,⟨some 62,.load false none tI (.s 61),none⟩,⟨some 63,.nilck (.s 52),none⟩,⟨some 64,.fld tCache 0 tImage (.s 63),none⟩,⟨some 65,.fld tImage 0 tInodes (.s 64),none⟩,⟨some 66,.idx 8 tInode (.s 65) (.s 53),none⟩,⟨some 67,.fld tInode 0 tB (.s 66),none⟩,⟨none,.store tB [] (.s 67) (.c (.bool true)),none⟩,⟨some 68,.nilck (.s 57),none⟩,⟨some 69,.fld tCache 0 tImage (.s 68),none⟩,⟨some 70,.fld tImage 0 tInodes (.s 69),none⟩,⟨some 71,.idx 8 tInode (.s 70) (.s 58),none⟩,⟨some 72,.fld tInode 1 tI (.s 71),none⟩,⟨none,.store tI [] (.s 72) (.s 62),none⟩]
@[reducible] def soft_Files_make.r9 : List MOp:=[⟨some 73,.mov (.s 0),none⟩,⟨some 74,.mov (.s 1),none⟩,⟨some 75,.mov (.s 2),none⟩,⟨some 76,.mov (.s 7),none⟩,⟨some 77,.call false [] 290 [(.s 73),(.s 74),(.s 75),(.s 76)],none⟩,⟨some 6,.mov (.s 77),none⟩]
@[reducible] def soft_Files_make.body : MC:=(.seq (.reg false soft_Files_make.r0 [6]) (.seq (.seq (.reg false soft_Files_make.r1 [8,9,10,11,12,13,14,15,16]) (.cond (.s 17) (.seq (.reg false soft_Files_make.r2 []) .ret) .skip)) (.seq (.reg false soft_Files_make.r3 [18,19,20,21,22]) (.seq (.seq (.reg false soft_Files_make.r4 [23,24,25,26,27,28,29,30]) (.cond (.s 31) (.seq (.reg false soft_Files_make.r5 []) .ret) .skip)) (.seq (.reg false soft_Files_make.r6 [32,33,34,35,36,37,38]) (.seq (.reg true soft_Files_make.r7 [39,40,41,42,43,44,45,46,47,48]) (.seq (.reg true soft_Files_make.r8 [49,50,51,52,53,54,55,56,57,58,59,60,61,62,63,64,65,66,67,68,69,70,71,72]) (.seq (.reg false soft_Files_make.r9 [0,1,2,7,73,74,75,76,77]) .ret))))))))
@[reducible] def soft_Files_make : MFun:={ params:=3,nfree:=0,res:=[.tmp 6],body:=soft_Files_make.body }
@[reducible] def life_Life_crash.r0 : List MOp:=[⟨some 2,.mov (.c (.int .i64 0)),none⟩]
@[reducible] def life_Life_crash.r1 : List MOp:=[⟨some 7,.mov (.s 0),none⟩,⟨some 8,.nilck (.s 7),none⟩,⟨some 9,.fld tLife 0 tP (.s 8),none⟩,⟨some 10,.load false none tP (.s 9),none⟩,⟨some 11,.nilck (.s 10),none⟩,⟨some 12,.fld tFiles 0 tP (.s 11),none⟩,⟨some 13,.load false none tP (.s 12),none⟩,⟨some 14,.call false [] 203 [(.s 13)],none⟩,⟨some 15,.call false [] 27 [(.s 14)],none⟩,⟨some 6,.mov (.s 15),none⟩,⟨some 16,.ext (.s 6) 0,none⟩,⟨some 17,.ext (.s 6) 1,none⟩,⟨some 18,.ext (.s 6) 2,none⟩,⟨some 3,.alloc false tImage,none⟩,⟨some 4,.alloc false tLost,none⟩,⟨none,.store tImage [] (.s 3) (.s 16),none⟩,⟨none,.store tLost [] (.s 4) (.s 17),none⟩,⟨some 5,.mov (.s 18),none⟩]
@[reducible] def life_Life_crash.r2 : List MOp:=[⟨some 19,.mov (.s 5),none⟩,⟨some 20,.bin .neq (.s 19) (.c (.int .i64 0)),none⟩]
@[reducible] def life_Life_crash.r3 : List MOp:=[⟨some 21,.mov (.s 5),none⟩,⟨some 2,.mov (.s 21),none⟩]
@[reducible] def life_Life_crash.r4 : List MOp:=[⟨some 22,.mov (.s 0),none⟩,⟨some 23,.mov (.s 0),none⟩,⟨some 24,.load false none tImage (.s 3),none⟩,⟨some 25,.call true [] 278 [(.s 24)],none⟩,⟨some 26,.load false (some 4) tLost (.s 4),none⟩,⟨some 27,.nilck (.s 22),none⟩,⟨some 28,.fld tLife 0 tP (.s 27),none⟩,⟨none,.store tP [4] (.s 28) (.s 25),none⟩,⟨some 29,.nilck (.s 23),none⟩,⟨some 30,.fld tLife 1 tLost (.s 29),none⟩,⟨none,.store tLost [] (.s 30) (.s 26),none⟩]
@[reducible] def life_Life_crash.r5 : List MOp:=[⟨some 31,.mov (.s 0),none⟩,⟨some 32,.nilck (.s 31),none⟩,⟨some 33,.fld tLife 2 tI (.s 32),none⟩,⟨some 34,.load false none tI (.s 33),none⟩,⟨some 35,.bin .add (.s 34) (.c (.int .i64 1)),none⟩,⟨some 36,.nilck (.s 31),none⟩,⟨some 37,.fld tLife 2 tI (.s 36),none⟩,⟨none,.store tI [] (.s 37) (.s 35),none⟩]
@[reducible] def life_Life_crash.r6 : List MOp:=[⟨some 2,.mov (.c (.int .i64 0)),none⟩]
@[reducible] def life_Life_crash.body : MC:=(.seq (.reg false life_Life_crash.r0 [2]) (.seq (.reg false life_Life_crash.r1 [6,7,8,9,10,11,12,13,14,15,16,17,18]) (.seq (.seq (.reg false life_Life_crash.r2 [19]) (.cond (.s 20) (.seq (.reg false life_Life_crash.r3 [5,21]) .ret) .skip)) (.seq (.reg true life_Life_crash.r4 [3,4,22,23,24,25,26,27,28,29,30]) (.seq (.reg false life_Life_crash.r5 [0,31,32,33,34,35,36,37]) (.seq (.reg false life_Life_crash.r6 []) .ret))))))
@[reducible] def life_Life_crash : MFun:={ params:=1,nfree:=0,res:=[.tmp 2],body:=life_Life_crash.body }
@[reducible] def soft_Files_free.r0 : List MOp:=[⟨some 6,.mov (.c (.int .i64 0)),none⟩]
@[reducible] def soft_Files_free.r1 : List MOp:=[⟨some 8,.mov (.s 0),none⟩,⟨some 9,.nilck (.s 8),none⟩,⟨some 10,.fld tFiles 0 tP (.s 9),none⟩,⟨some 11,.load false none tP (.s 10),none⟩,⟨some 12,.call false [] 203 [(.s 11)],none⟩,⟨some 7,.alloc false tImage,none⟩,⟨none,.store tImage [] (.s 7) (.s 12),none⟩]
@[reducible] def soft_Files_free.r2 : List MOp:=[⟨some 13,.mov (.s 1),none⟩,⟨some 14,.mov (.s 2),none⟩,⟨some 15,.call false [] 19 [(.s 7),(.s 13),(.s 14)],none⟩,⟨some 16,.bin .geq (.s 15) (.c (.int .i64 0)),none⟩]
@[reducible] def soft_Files_free.r3 : List MOp:=[⟨some 6,.mov (.c (.int .i64 (-1))),none⟩]
@[reducible] def soft_Files_free.r4 : List MOp:=[⟨some 17,.mov (.s 0),none⟩,⟨some 18,.nilck (.s 17),none⟩,⟨some 19,.fld tFiles 0 tP (.s 18),none⟩,⟨some 20,.load false none tP (.s 19),none⟩,⟨some 21,.mov (.s 1),none⟩,⟨some 22,.call false [] 207 [(.s 20),(.s 21)],none⟩,⟨some 6,.mov (.s 22),none⟩]
@[reducible] def soft_Files_free.body : MC:=(.seq (.reg false soft_Files_free.r0 [6]) (.seq (.reg false soft_Files_free.r1 [8,9,10,11,12]) (.seq (.seq (.reg false soft_Files_free.r2 [2,7,13,14,15]) (.cond (.s 16) (.seq (.reg false soft_Files_free.r3 []) .ret) .skip)) (.seq (.reg false soft_Files_free.r4 [0,1,17,18,19,20,21,22]) .ret))))
@[reducible] def soft_Files_free : MFun:={ params:=3,nfree:=0,res:=[.tmp 6],body:=soft_Files_free.body }
@[reducible] def w_LifeOwn.r0 : List MOp:=[⟨some 2,.mov (.c (.bool false)),none⟩]
@[reducible] def w_LifeOwn.r1 : List MOp:=[⟨some 19,.call false [] 286 [],none⟩,⟨some 20,.un .not (.s 19),none⟩]
@[reducible] def w_LifeOwn.r2 : List MOp:=[⟨some 2,.mov (.c (.bool false)),none⟩]
@[reducible] def w_LifeOwn.r3 : List MOp:=[⟨some 21,.mov (.s 0),none⟩,⟨some 22,.call false [] 228 [(.s 21)],none⟩]
@[reducible] def w_LifeOwn.r4 : List MOp:=[⟨some 2,.mov (.c (.bool true)),none⟩]
@[reducible] def w_LifeOwn.r5 : List MOp:=[⟨some 23,.call false [] 285 [],none⟩,⟨some 3,.mov (.s 23),none⟩]
@[reducible] def w_LifeOwn.r6 : List MOp:=[⟨some 4,.mov (.c .nilsl),none⟩]
@[reducible] def w_LifeOwn.r7 : List MOp:=[⟨some 5,.mov (.c .nilsl),none⟩]
@[reducible] def w_LifeOwn.r8 : List MOp:=[⟨some 6,.mov (.c (.int .i64 0)),none⟩]
@[reducible] def w_LifeOwn.r9 : List MOp:=[⟨some 24,.mov (.s 6),none⟩,⟨some 25,.mov (.s 0),none⟩,⟨some 26,.len false (.s 25),none⟩,⟨some 27,.bin .lss (.s 24) (.s 26),none⟩]
@[reducible] def w_LifeOwn.r10 : List MOp:=[⟨some 28,.mov (.s 6),none⟩,⟨some 29,.bin .add (.s 28) (.c (.int .i64 1)),none⟩,⟨some 6,.mov (.s 29),none⟩]
@[reducible] def w_LifeOwn.r11 : List MOp:=[⟨some 30,.mov (.s 0),none⟩,⟨some 31,.mov (.s 6),none⟩,⟨some 32,.sidx false tStep (.s 30) (.s 31),none⟩,⟨some 33,.load false none tStep (.s 32),none⟩,⟨some 7,.alloc false tStep,none⟩,⟨none,.store tStep [] (.s 7) (.s 33),none⟩]
@[reducible] def w_LifeOwn.r12 : List MOp:=[⟨some 34,.mov (.s 3),none⟩,⟨some 35,.nilck (.s 34),none⟩,⟨some 36,.fld tLife 0 tP (.s 35),none⟩,⟨some 37,.load false none tP (.s 36),none⟩,⟨some 38,.nilck (.s 37),none⟩,⟨some 39,.fld tFiles 0 tP (.s 38),none⟩,⟨some 40,.load false none tP (.s 39),none⟩,⟨some 41,.nilck (.s 40),none⟩,⟨some 42,.fld tCache 0 tImage (.s 41),none⟩,⟨some 43,.fld tStep 1 tI (.s 7),none⟩,⟨some 44,.load false none tI (.s 43),none⟩,⟨some 45,.fld tStep 4 tS (.s 7),none⟩,⟨some 46,.load false none tS (.s 45),none⟩,⟨some 47,.call false [] 19 [(.s 42),(.s 44),(.s 46)],none⟩,⟨some 8,.mov (.s 47),none⟩]
@[reducible] def w_LifeOwn.r13 : List MOp:=[⟨some 9,.mov (.c (.int .i64 0)),none⟩]
@[reducible] def w_LifeOwn.r14 : List MOp:=[⟨some 48,.mov (.s 8),none⟩,⟨some 49,.bin .geq (.s 48) (.c (.int .i64 0)),none⟩,⟨some 50,.mov (.s 49),none⟩,⟨some 51,.mov (.s 8),some (50,true)⟩,⟨some 52,.bin .lss (.s 51) (.c (.int .i64 4)),some (50,true)⟩,⟨some 53,.pick (.s 50) (.s 52) (.c (.bool false)),none⟩]
@[reducible] def w_LifeOwn.r15 : List MOp:=[⟨some 54,.mov (.s 3),none⟩,⟨some 55,.nilck (.s 54),none⟩,⟨some 56,.fld tLife 0 tP (.s 55),none⟩,⟨some 57,.load false none tP (.s 56),none⟩,⟨some 58,.nilck (.s 57),none⟩,⟨some 59,.fld tFiles 0 tP (.s 58),none⟩,⟨some 60,.load false none tP (.s 59),none⟩,⟨some 61,.fld tStep 1 tI (.s 7),none⟩,⟨some 62,.load false none tI (.s 61),none⟩,⟨some 63,.mov (.s 8),none⟩,⟨some 64,.nilck (.s 60),none⟩,⟨some 65,.fld tCache 0 tImage (.s 64),none⟩,⟨some 66,.fld tImage 1 tDirs (.s 65),none⟩,⟨some 67,.idx 3 tRow (.s 66) (.s 62),none⟩,⟨some 68,.idx 4 tEntry (.s 67) (.s 63),none⟩,⟨some 69,.fld tEntry 2 tI (.s 68),none⟩,⟨some 70,.load false none tI (.s 69),none⟩,⟨some 9,.mov (.s 70),none⟩]
@[reducible] def w_LifeOwn.r16 : List MOp:=[⟨some 71,.mov (.s 3),none⟩,⟨some 72,.load false none tStep (.s 7),none⟩,⟨some 73,.call false [] 281 [(.s 71),(.s 72)],none⟩,⟨some 10,.mov (.s 73),none⟩]
@[reducible] def w_LifeOwn.r17 : List MOp:=[⟨some 74,.mov (.s 10),none⟩,⟨some 75,.bin .eql (.s 74) (.c (.int .i64 0)),none⟩,⟨some 76,.mov (.s 75),none⟩,⟨some 77,.fld tStep 0 tI (.s 7),some (76,true)⟩,⟨some 78,.load false none tI (.s 77),some (76,true)⟩,⟨some 79,.bin .eql (.s 78) (.c (.int .i64 5)),some (76,true)⟩,⟨some 80,.pick (.s 76) (.s 79) (.c (.bool false)),none⟩,⟨some 81,.mov (.s 80),none⟩,⟨some 82,.mov (.s 9),some (81,true)⟩,⟨some 83,.bin .gtr (.s 82) (.c (.int .i64 0)),some (81,true)⟩,⟨some 84,.pick (.s 81) (.s 83) (.c (.bool false)),none⟩]
@[reducible] def w_LifeOwn.r18 : List MOp:=[⟨some 85,.mov (.s 4),none⟩,⟨some 86,.mov (.s 9),none⟩,⟨some 87,.bslice false tI 1 [(0,(.s 86))],none⟩,⟨some 88,.append false [1000003,7] tI (.s 85) (.s 87),none⟩,⟨some 89,.mov (.s 5),none⟩,⟨some 90,.fld tStep 6 tS (.s 7),none⟩,⟨some 91,.load false (some 7) tS (.s 90),none⟩,⟨some 92,.bslice false tS 1 [(0,(.s 91))],none⟩,⟨some 93,.append false [1000003] tS (.s 89) (.s 92),none⟩,⟨some 4,.mov (.s 88),none⟩,⟨some 5,.mov (.s 93),none⟩]
@[reducible] def w_LifeOwn.r19 : List MOp:=[⟨some 94,.fld tStep 0 tI (.s 7),none⟩,⟨some 95,.load false none tI (.s 94),none⟩,⟨some 96,.bin .eql (.s 95) (.c (.int .i64 1)),none⟩,⟨some 97,.mov (.s 96),none⟩,⟨some 98,.mov (.s 10),some (97,true)⟩,⟨some 99,.bin .eql (.s 98) (.c (.int .i64 0)),some (97,true)⟩,⟨some 100,.pick (.s 97) (.s 99) (.c (.bool false)),none⟩]
@[reducible] def w_LifeOwn.r20 : List MOp:=[⟨some 101,.mov (.s 3),none⟩,⟨some 102,.nilck (.s 101),none⟩,⟨some 103,.fld tLife 0 tP (.s 102),none⟩,⟨some 104,.load false none tP (.s 103),none⟩,⟨some 105,.nilck (.s 104),none⟩,⟨some 106,.fld tFiles 0 tP (.s 105),none⟩,⟨some 107,.load false none tP (.s 106),none⟩,⟨some 108,.nilck (.s 107),none⟩,⟨some 109,.fld tCache 0 tImage (.s 108),none⟩,⟨some 110,.fld tStep 1 tI (.s 7),none⟩,⟨some 111,.load false none tI (.s 110),none⟩,⟨some 112,.fld tStep 4 tS (.s 7),none⟩,⟨some 113,.load false none tS (.s 112),none⟩,⟨some 114,.call false [] 19 [(.s 109),(.s 111),(.s 113)],none⟩,⟨some 11,.mov (.s 114),none⟩]
@[reducible] def w_LifeOwn.r21 : List MOp:=[⟨some 115,.mov (.s 11),none⟩,⟨some 116,.bin .lss (.s 115) (.c (.int .i64 0)),none⟩,⟨some 117,.mov (.s 116),none⟩,⟨some 118,.mov (.s 11),some (117,false)⟩,⟨some 119,.bin .geq (.s 118) (.c (.int .i64 4)),some (117,false)⟩,⟨some 120,.pick (.s 117) (.c (.bool true)) (.s 119),none⟩]
@[reducible] def w_LifeOwn.r22 : List MOp:=[⟨some 2,.mov (.c (.bool false)),none⟩]
@[reducible] def w_LifeOwn.r23 : List MOp:=[⟨some 12,.mov (.c (.int .i64 0)),none⟩]
@[reducible] def w_LifeOwn.r24 : List MOp:=[⟨some 121,.mov (.s 12),none⟩,⟨some 122,.mov (.s 4),none⟩,⟨some 123,.len false (.s 122),none⟩,⟨some 124,.bin .lss (.s 121) (.s 123),none⟩]
@[reducible] def w_LifeOwn.r25 : List MOp:=[⟨some 125,.mov (.s 12),none⟩,⟨some 126,.bin .add (.s 125) (.c (.int .i64 1)),none⟩,⟨some 12,.mov (.s 126),none⟩]
@[reducible] def w_LifeOwn.r26 : List MOp:=[⟨some 127,.mov (.s 4),none⟩,⟨some 128,.mov (.s 12),none⟩,⟨some 129,.sidx false tI (.s 127) (.s 128),none⟩,⟨some 130,.load false none tI (.s 129),none⟩,⟨some 131,.mov (.s 3),none⟩,⟨some 132,.nilck (.s 131),none⟩,⟨some 133,.fld tLife 0 tP (.s 132),none⟩,⟨some 134,.load false none tP (.s 133),none⟩,⟨some 135,.nilck (.s 134),none⟩,⟨some 136,.fld tFiles 0 tP (.s 135),none⟩,⟨some 137,.load false none tP (.s 136),none⟩,⟨some 138,.fld tStep 1 tI (.s 7),none⟩,⟨some 139,.load false none tI (.s 138),none⟩,⟨some 140,.mov (.s 11),none⟩,⟨some 141,.nilck (.s 137),none⟩,⟨some 142,.fld tCache 0 tImage (.s 141),none⟩,⟨some 143,.fld tImage 1 tDirs (.s 142),none⟩,⟨some 144,.idx 3 tRow (.s 143) (.s 139),none⟩,⟨some 145,.idx 4 tEntry (.s 144) (.s 140),none⟩,⟨some 146,.fld tEntry 2 tI (.s 145),none⟩,⟨some 147,.load false none tI (.s 146),none⟩,⟨some 148,.bin .eql (.s 130) (.s 147),none⟩]
@[reducible] def w_LifeOwn.r27 : List MOp:=[⟨some 149,.mov (.s 4),none⟩,⟨some 150,.mov (.s 12),none⟩,⟨some 151,.sidx false tI (.s 149) (.s 150),none⟩,⟨none,.store tI [] (.s 151) (.c (.int .i64 0)),none⟩]
@[reducible] def w_LifeOwn.r28 : List MOp:=[⟨some 152,.mov (.s 3),none⟩,⟨some 153,.nilck (.s 152),none⟩,⟨some 154,.fld tLife 0 tP (.s 153),none⟩,⟨some 155,.load false none tP (.s 154),none⟩,⟨some 156,.nilck (.s 155),none⟩,⟨some 157,.fld tFiles 0 tP (.s 156),none⟩,⟨some 158,.load false none tP (.s 157),none⟩,⟨some 159,.call false [] 203 [(.s 158)],none⟩,⟨some 13,.alloc false tImage,none⟩,⟨none,.store tImage [] (.s 13) (.s 159),none⟩]
@[reducible] def w_LifeOwn.r29 : List MOp:=[⟨some 14,.mov (.c (.int .i64 0)),none⟩]
@[reducible] def w_LifeOwn.r30 : List MOp:=[⟨some 160,.mov (.s 14),none⟩,⟨some 161,.bin .lss (.s 160) (.c (.int .i64 8)),none⟩]
@[reducible] def w_LifeOwn.r31 : List MOp:=[⟨some 162,.mov (.s 14),none⟩,⟨some 163,.bin .add (.s 162) (.c (.int .i64 1)),none⟩,⟨some 14,.mov (.s 163),none⟩]
@[reducible] def w_LifeOwn.r32 : List MOp:=[⟨some 15,.mov (.c (.int .i64 0)),none⟩]
@[reducible] def w_LifeOwn.r33 : List MOp:=[⟨some 164,.mov (.s 15),none⟩,⟨some 165,.bin .lss (.s 164) (.c (.int .i64 2)),none⟩]
@[reducible] def w_LifeOwn.r34 : List MOp:=[⟨some 166,.mov (.s 15),none⟩,⟨some 167,.bin .add (.s 166) (.c (.int .i64 1)),none⟩,⟨some 15,.mov (.s 167),none⟩]
@[reducible] def w_LifeOwn.r35 : List MOp:=[⟨some 168,.mov (.s 14),none⟩,⟨some 169,.mov (.s 15),none⟩,⟨some 170,.fld tImage 0 tInodes (.s 13),none⟩,⟨some 171,.idx 8 tInode (.s 170) (.s 168),none⟩,⟨some 172,.fld tInode 3 tParts (.s 171),none⟩,⟨some 173,.idx 2 tI (.s 172) (.s 169),none⟩,⟨some 174,.load false none tI (.s 173),none⟩,⟨some 16,.mov (.s 174),none⟩]
@[reducible] def w_LifeOwn.r36 : List MOp:=[⟨some 175,.mov (.s 14),none⟩,⟨some 176,.fld tImage 0 tInodes (.s 13),none⟩,⟨some 177,.idx 8 tInode (.s 176) (.s 175),none⟩,⟨some 178,.fld tInode 0 tB (.s 177),none⟩,⟨some 179,.load false none tB (.s 178),none⟩,⟨some 180,.un .not (.s 179),none⟩,⟨some 181,.mov (.s 180),none⟩,⟨some 182,.mov (.s 16),some (181,false)⟩,⟨some 183,.bin .lss (.s 182) (.c (.int .i64 0)),some (181,false)⟩,⟨some 184,.pick (.s 181) (.c (.bool true)) (.s 183),none⟩]
@[reducible] def w_LifeOwn.r37 : List MOp:=[⟨some 185,.mov (.s 16),none⟩,⟨some 186,.bin .geq (.s 185) (.c (.int .i64 9)),none⟩,⟨some 187,.mov (.s 186),none⟩,⟨some 188,.mov (.s 16),some (187,false)⟩,⟨some 189,.fld tImage 2 tDatas (.s 13),some (187,false)⟩,⟨some 190,.idx 9 tData (.s 189) (.s 188),some (187,false)⟩,⟨some 191,.fld tData 0 tI (.s 190),some (187,false)⟩,⟨some 192,.load false none tI (.s 191),some (187,false)⟩,⟨some 193,.mov (.s 14),some (187,false)⟩,⟨some 194,.fld tImage 0 tInodes (.s 13),some (187,false)⟩,⟨some 195,.idx 8 tInode (.s 194) (.s 193),some (187,false)⟩,⟨some 196,.fld tInode 1 tI (.s 195),some (187,false)⟩,⟨some 197,.load false none tI (.s 196),some (187,false)⟩,⟨some 198,.bin .neq (.s 192) (.s 197),some (187,false)⟩,⟨some 199,.pick (.s 187) (.c (.bool true)) (.s 198),none⟩]
@[reducible] def w_LifeOwn.r38 : List MOp:=[⟨some 2,.mov (.c (.bool false)),none⟩]
@[reducible] def w_LifeOwn.r39 : List MOp:=[⟨some 17,.mov (.c (.bool false)),none⟩]
@[reducible] def w_LifeOwn.r40 : List MOp:=[⟨some 18,.mov (.c (.int .i64 0)),none⟩]
@[reducible] def w_LifeOwn.r41 : List MOp:=[⟨some 200,.mov (.s 18),none⟩,⟨some 201,.mov (.s 4),none⟩,⟨some 202,.len false (.s 201),none⟩,⟨some 203,.bin .lss (.s 200) (.s 202),none⟩]
@[reducible] def w_LifeOwn.r42 : List MOp:=[⟨some 204,.mov (.s 18),none⟩,⟨some 205,.bin .add (.s 204) (.c (.int .i64 1)),none⟩,⟨some 18,.mov (.s 205),none⟩]
@[reducible] def w_LifeOwn.r43 : List MOp:=[⟨some 206,.mov (.s 17),none⟩,⟨some 207,.mov (.s 206),none⟩,⟨some 208,.mov (.s 4),some (207,false)⟩,⟨some 209,.mov (.s 18),some (207,false)⟩,⟨some 210,.sidx false tI (.s 208) (.s 209),some (207,false)⟩,⟨some 211,.load false none tI (.s 210),some (207,false)⟩,⟨some 212,.mov (.s 14),some (207,false)⟩,⟨some 213,.fld tImage 0 tInodes (.s 13),some (207,false)⟩,⟨some 214,.idx 8 tInode (.s 213) (.s 212),some (207,false)⟩,⟨some 215,.fld tInode 1 tI (.s 214),some (207,false)⟩,⟨some 216,.load false none tI (.s 215),some (207,false)⟩,⟨some 217,.bin .eql (.s 211) (.s 216),some (207,false)⟩,⟨some 218,.mov (.s 217),some (207,false)⟩,⟨some 219,.mov (.s 5),some (218,true)⟩,⟨some 220,.mov (.s 18),some (218,true)⟩,⟨some 221,.sidx false tS (.s 219) (.s 220),some (218,true)⟩,⟨some 222,.load false none tS (.s 221),some (218,true)⟩,⟨some 223,.mov (.s 16),some (218,true)⟩,⟨some 224,.fld tImage 2 tDatas (.s 13),some (218,true)⟩,⟨some 225,.idx 9 tData (.s 224) (.s 223),some (218,true)⟩,⟨some 226,.fld tData 1 tS (.s 225),some (218,true)⟩,⟨some 227,.load false none tS (.s 226),some (218,true)⟩,⟨some 228,.bin .eql (.s 222) (.s 227),some (218,true)⟩,⟨some 229,.pick (.s 218) (.s 228) (.c (.bool false)),some (207,false)⟩,⟨some 230,.pick (.s 207) (.c (.bool true)) (.s 229),none⟩,⟨some 17,.mov (.s 230),none⟩]
@[reducible] def w_LifeOwn.r44 : List MOp:=[⟨some 231,.mov (.s 17),none⟩,⟨some 232,.un .not (.s 231),none⟩]
@[reducible] def w_LifeOwn.r45 : List MOp:=[⟨some 2,.mov (.c (.bool false)),none⟩]
@[reducible] def w_LifeOwn.r46 : List MOp:=[⟨some 2,.mov (.c (.bool true)),none⟩]
@[reducible] def w_LifeOwn.body : MC:=(.seq (.reg false w_LifeOwn.r0 [2]) (.seq (.seq (.reg false w_LifeOwn.r1 [19]) (.cond (.s 20) (.seq (.reg false w_LifeOwn.r2 []) .ret) .skip)) (.seq (.seq (.reg false w_LifeOwn.r3 [21]) (.cond (.s 22) (.seq (.reg false w_LifeOwn.r4 []) .ret) .skip)) (.seq (.reg false w_LifeOwn.r5 [23]) (.seq (.reg false w_LifeOwn.r6 []) (.seq (.reg false w_LifeOwn.r7 []) (.seq (.seq (.reg false w_LifeOwn.r8 []) (.block 0 (.loop [0,3,4,5,6] [88,93] (.seq (.seq (.reg false w_LifeOwn.r9 [24,25,26]) (.cond (.s 27) .skip (.exit 0))) (.seq (.block 1 (.seq (.reg false w_LifeOwn.r11 [30,31,32,33]) (.seq (.reg true w_LifeOwn.r12 [34,35,36,37,38,39,40,41,42,43,44,45,46,47]) (.seq (.reg false w_LifeOwn.r13 []) (.seq (.seq (.reg false w_LifeOwn.r14 [48,49,50,51,52]) (.cond (.s 53) (.reg true w_LifeOwn.r15 [8,54,55,56,57,58,59,60,61,62,63,64,65,66,67,68,69,70]) .skip)) (.seq (.reg false w_LifeOwn.r16 [71,72,73]) (.seq (.seq (.reg false w_LifeOwn.r17 [74,75,76,77,78,79,80,81,82,83]) (.cond (.s 84) (.regL true [4,5] w_LifeOwn.r18 [9,85,86,87,88,89,90,91,92,93]) .skip)) (.seq (.seq (.reg false w_LifeOwn.r19 [10,94,95,96,97,98,99]) (.cond (.s 100) (.seq (.reg true w_LifeOwn.r20 [101,102,103,104,105,106,107,108,109,110,111,112,113,114]) (.seq (.seq (.reg false w_LifeOwn.r21 [115,116,117,118,119]) (.cond (.s 120) (.seq (.reg false w_LifeOwn.r22 []) .ret) .skip)) (.seq (.reg false w_LifeOwn.r23 []) (.block 2 (.loop [0,3,4,5,6,7,11,12] [7,88,93] (.seq (.seq (.reg false w_LifeOwn.r24 [121,122,123]) (.cond (.s 124) .skip (.exit 2))) (.seq (.block 3 (.seq (.reg true w_LifeOwn.r26 [127,128,129,130,131,132,133,134,135,136,137,138,139,140,141,142,143,144,145,146,147]) (.cond (.s 148) (.reg false w_LifeOwn.r27 [149,150,151]) .skip))) (.reg false w_LifeOwn.r25 [125,126])))))))) .skip)) (.seq (.reg false w_LifeOwn.r28 [152,153,154,155,156,157,158,159]) (.seq (.reg false w_LifeOwn.r29 []) (.block 4 (.loop [0,3,4,5,6,13,14] [13,88,93] (.seq (.seq (.reg false w_LifeOwn.r30 [160]) (.cond (.s 161) .skip (.exit 4))) (.seq (.block 5 (.seq (.reg false w_LifeOwn.r32 []) (.block 6 (.loop [0,3,4,5,6,13,14,15] [13,88,93] (.seq (.seq (.reg false w_LifeOwn.r33 [164]) (.cond (.s 165) .skip (.exit 6))) (.seq (.block 7 (.seq (.reg false w_LifeOwn.r35 [168,169,170,171,172,173,174]) (.seq (.seq (.reg false w_LifeOwn.r36 [175,176,177,178,179,180,181,182,183]) (.cond (.s 184) (.exit 7) .skip)) (.seq (.seq (.reg true w_LifeOwn.r37 [185,186,187,188,189,190,191,192,193,194,195,196,197,198]) (.cond (.s 199) (.seq (.reg false w_LifeOwn.r38 []) .ret) .skip)) (.seq (.reg false w_LifeOwn.r39 []) (.seq (.seq (.reg false w_LifeOwn.r40 []) (.block 8 (.loop [0,3,4,5,6,13,14,15,16,17,18] [13,88,93] (.seq (.seq (.reg false w_LifeOwn.r41 [200,201,202]) (.cond (.s 203) .skip (.exit 8))) (.seq (.block 9 (.reg true w_LifeOwn.r43 [206,207,208,209,210,211,212,213,214,215,216,217,218,219,220,221,222,223,224,225,226,227,228,229,230])) (.reg false w_LifeOwn.r42 [204,205])))))) (.seq (.reg false w_LifeOwn.r44 [17,231]) (.cond (.s 232) (.seq (.reg false w_LifeOwn.r45 []) .ret) .skip)))))))) (.reg false w_LifeOwn.r34 [166,167]))))))) (.reg false w_LifeOwn.r31 [162,163]))))))))))))))) (.reg false w_LifeOwn.r10 [28,29])))))) (.seq (.reg false w_LifeOwn.r46 []) .ret))))))))
@[reducible] def w_LifeOwn : MFun:={ params:=1,nfree:=0,res:=[.tmp 2],body:=w_LifeOwn.body }
end Fn
def tblEL0 : List (Option MFun):=[none,none,none,none,none,none,none,none,none,none,none,none,none,none,none,none,some Fn.ideal_Check,none,none,none,none,none,none,none,some Fn.r_SameTexts,none,none,none,some Fn.w_greatSteps,some Fn.w_greatStep,none,none,some Fn.ideal_check,none,none,none,some Fn.slices_SortFunc,none,none,none,some Fn.math_bits_Len,some Fn.slices_pdqsortCmpFunc,some Fn.cmp_Compare,some Fn.cmp_isNaN,some Fn.slices_partitionCmpFunc,some Fn.slices_partitionEqualCmpFunc,some Fn.slices_partialInsertionSortCmpFunc,some Fn.slices_reverseRangeCmpFunc,some Fn.slices_choosePivotCmpFunc,some Fn.slices_breakPatternsCmpFunc,some Fn.slices_heapSortCmpFunc,some Fn.slices_insertionSortCmpFunc,some Fn.math_bits_Len64,some Fn.math_bits_Len32,some Fn.slices_siftDownCmpFunc,some Fn.slices_xorshift_Next,some Fn.slices_nextPowerOfTwo,some Fn.slices_medianCmpFunc,some Fn.slices_medianAdjacentCmpFunc,some Fn.slices_order2CmpFunc,none,none,none,none,none,none,none,none,none,none,none,none,some Fn.soft_Files_List,none,none,some Fn.soft_Files_Do,some Fn.soft_New,none,none,none,none,some Fn.life_Life_Step,none,some Fn.life_Life_Crashes,some Fn.life_Life_Lost,some Fn.life_New,some Fn.w_lifeBegun,none,none,some Fn.soft_Files_List_1,some Fn.soft_Files_enter,some Fn.soft_Files_leave,some Fn.soft_Files_put,some Fn.soft_Files_make,some Fn.life_Life_crash,none,none,some Fn.soft_Files_free,none,none,none,none,none,none,none,some Fn.w_LifeOwn,none,none]
namespace Fn
@[reducible] def soft_Of.r0 : List MOp:=[⟨some 1,.box false tImage (.s 0),none⟩,⟨some 2,.mov (.c .nilp),none⟩]
@[reducible] def soft_Of.r1 : List MOp:=[⟨some 7,.load false none tImage (.s 1),none⟩,⟨some 8,.call false [] 214 [(.s 7)],none⟩,⟨some 3,.mov (.s 8),none⟩]
@[reducible] def soft_Of.r2 : List MOp:=[⟨some 9,.mov (.s 3),none⟩,⟨some 10,.eq false tP (.s 9) (.c .nilp),none⟩]
@[reducible] def soft_Of.r3 : List MOp:=[⟨some 2,.mov (.c .nilp),none⟩]
@[reducible] def soft_Of.r4 : List MOp:=[⟨some 11,.mov (.s 3),none⟩,⟨some 12,.build tFiles [(0,(.s 11))],none⟩,⟨some 13,.box true tFiles (.s 12),none⟩,⟨some 4,.mov (.s 13),none⟩]
@[reducible] def soft_Of.r5 : List MOp:=[⟨some 14,.fld tImage 0 tInodes (.s 1),none⟩,⟨some 15,.load false none tInodes (.s 14),none⟩,⟨some 16,.mov (.c (.int .i64 0)),none⟩]
@[reducible] def soft_Of.r6 : List MOp:=[⟨some 17,.bin .lss (.s 16) (.c (.int .i64 8)),none⟩]
@[reducible] def soft_Of.r7 : List MOp:=[⟨some 18,.aidx 8 tInode (.s 15) (.s 16),none⟩,⟨some 6,.alloc false tInode,none⟩,⟨none,.store tInode [] (.s 6) (.s 18),none⟩]
@[reducible] def soft_Of.r8 : List MOp:=[⟨some 19,.mov (.s 4),none⟩,⟨some 20,.mov (.s 4),none⟩,⟨some 21,.nilck (.s 20),none⟩,⟨some 22,.fld tFiles 1 tI (.s 21),none⟩,⟨some 23,.load false none tI (.s 22),none⟩,⟨some 24,.fld tInode 1 tI (.s 6),none⟩,⟨some 25,.load false none tI (.s 24),none⟩,⟨some 26,.max (.s 23) (.s 25),none⟩,⟨some 27,.nilck (.s 19),none⟩,⟨some 28,.fld tFiles 1 tI (.s 27),none⟩,⟨none,.store tI [] (.s 28) (.s 26),none⟩]
@[reducible] def soft_Of.r9 : List MOp:=[⟨some 29,.bin .add (.s 16) (.c (.int .i64 1)),none⟩,⟨some 16,.mov (.s 29),none⟩]
@[reducible] def soft_Of.r10 : List MOp:=[⟨some 30,.mov (.s 4),none⟩,⟨some 2,.mov (.s 30),none⟩]
@[reducible] def soft_Of.body : MC:=(.seq (.reg false soft_Of.r0 [0,2]) (.seq (.reg false soft_Of.r1 [7,8]) (.seq (.seq (.reg false soft_Of.r2 [9]) (.cond (.s 10) (.seq (.reg false soft_Of.r3 []) .ret) .skip)) (.seq (.reg false soft_Of.r4 [3,11,12,13]) (.seq (.seq (.reg false soft_Of.r5 [1,14]) (.block 0 (.loop [4,15,16] [13] (.seq (.reg false soft_Of.r6 []) (.seq (.cond (.s 17) .skip (.exit 0)) (.seq (.block 1 (.seq (.reg false soft_Of.r7 [18]) (.reg true soft_Of.r8 [6,19,20,21,22,23,24,25,26,27,28]))) (.reg false soft_Of.r9 [29]))))))) (.seq (.reg false soft_Of.r10 [4,30]) .ret))))))
@[reducible] def soft_Of : MFun:={ params:=1,nfree:=0,res:=[.tmp 2],body:=soft_Of.body }
end Fn
def tblF0 : List (Option MFun):=[none,none,none,none,none,none,none,none,none,none,none,none,none,none,none,none,none,none,none,none,none,none,none,none,none,none,none,none,none,none,none,none,none,none,none,none,none,none,none,none,none,none,none,none,none,none,none,none,none,none,none,none,none,none,none,none,none,none,none,none,none,none,none,none,none,none,none,none,none,none,none,none,none,none,none,none,none,none,some Fn.soft_Of,none,none,none,none,none,none,none,none,none,none,none,none,none,none,none,none,none,none,none,none,none,none,none,none,none,none,none,none,none,none,none,none,none,none,none,none,none]
namespace Fn
end Fn
def tblG0 : List (Option MFun):=[none,none,none,none,none,none,none,none,none,none,none,none,none,none,none,none,none,none,none,none,none,none,none,none,none,none,none,none,none,none,none,none,none,none,none,none,none,none,none,none,none,none,none,none,none,none,none,none,none,none,none,none,none,none,none,none,none,none,none,none,none,none,none,none,none,none,none,none,none,none,none,none,none,none,none,none,none,none,none,none,none,none,none,none,none,none,none,none,none,none,none,none,none,none,none,none,none,none,none,none,none,none,none,none,none,none,none,none,none,none,none,none,none,none,none,none,none,none,none,none,none,none,none,none,none,none,none,none,none,none,none,none,none,none,none]
def mergeT : List (Option MFun) → List (Option MFun) → List (Option MFun)
 | [],c=>c
 | a,[]=>a
 | some x :: a,_ :: c=>some x :: mergeT a c
 | none :: a,b :: c=>b :: mergeT a c
theorem mergeT_ext : ∀ (a c : List (Option MFun)) (i : Nat) (fn : MFun),a.getD i none = some fn → (mergeT a c).getD i none = some fn
 | [],c,i,fn,h=>by simp at h
 | x :: a,[],i,fn,h=>by cases x <;> exact h
 | some x :: a,y :: c,0,fn,h=>h
 | none :: a,y :: c,0,fn,h=>by simp at h
 | some x :: a,y :: c,i + 1,fn,h=>mergeT_ext a c i fn h
 | none :: a,y :: c,i + 1,fn,h=>mergeT_ext a c i fn h
def tblEL : List (Option MFun):=mergeT (mergeT (mergeT (mergeT tblBL (List.replicate 200 none ++ tblDL0)) (List.replicate 200 none ++ tblEL0)) (List.replicate 200 none ++ tblF0)) (List.replicate 200 none ++ tblG0)
def tblE (f : Nat) : Option MFun:=tblEL.getD f none
theorem tbl_E (i : Nat) (fn : MFun) (h : tblB i = some fn) : tblE i = some fn:=mergeT_ext _ _ _ _ (mergeT_ext _ _ _ _ (mergeT_ext _ _ _ _ (mergeT_ext _ _ _ _ h)))
theorem upE {cx : Cx} {fn : MFun} {e : St} {R : AV → HP → Prop} (h : Ok tblB cx fn e R) : Ok tblE cx fn e R:=by
 obtain ⟨n,s',v,hr,hv,hR⟩:=h
 exact ⟨n,s',v,run_ext tbl_E hr,hv,hR⟩
def HP.ob (h : HP) (n : Nat) (t : Ty) (v : AV) : HP:=h.set (.obj n) ⟨t,v⟩
def HP.nw (h : HP) (t : Ty) (v : AV) : HP:={ h.ob h.next t v with next:=h.next + 1 }
section
variable {h : HP} {n m l : Nat} {t u : Ty} {v w : AV} {o : Own}
theorem cs_ob (a b : Img) : h.cs n a b = h.ob n tCache (encC a b):=rfl
@[go_sem] theorem look_ob : (h.ob n t v).look (.obj n) = some ⟨t,v⟩:=by simp [HP.ob,HP.set,HP.look]
theorem look_ob_ne (e : ¬m = n) : (h.ob n t v).look (.obj m) = h.look (.obj m):=by simp [HP.ob,HP.set,HP.look,e]
theorem obj_ob_ne (e : ¬m = n) : (h.ob n t v).obj m = h.obj m:=by simp [HP.ob,HP.set,e]
@[go_sem] theorem look_ob_arg : (h.ob n t v).look (.arg m) = h.look (.arg m):=rfl
@[go_sem] theorem ob_ob : (h.ob n t v).ob n u w = h.ob n u w:=by
 simp only [HP.ob,HP.set]; congr 1; funext k; by_cases e : k = n <;> simp [e]
@[go_sem] theorem push_ob : (h.push l o).ob n t v = (h.ob n t v).push l o:=rfl
@[go_sem] theorem push_nw : (h.push l o).nw t v = (h.nw t v).push l o:=rfl
@[go_sem] theorem next_ob : (h.ob n t v).next = h.next:=rfl
@[go_sem] theorem next_nw : (h.nw t v).next = h.next + 1:=rfl
@[go_sem] theorem next_push : (h.push l o).next = h.next:=rfl
@[go_sem] theorem look_nw : (h.nw t v).look (.obj h.next) = some ⟨t,v⟩:=by simp [HP.nw,HP.ob,HP.set,HP.look]
theorem look_nw_ne (e : ¬m = h.next) : (h.nw t v).look (.obj m) = h.look (.obj m):=by simp [HP.nw,HP.ob,HP.set,HP.look,e]
theorem look_nw_lt (e : m < h.next) : (h.nw t v).look (.obj m) = h.look (.obj m):=look_nw_ne (by omega)
@[go_sem] theorem push_looko : (h.push l o).look (.obj n) = h.look (.obj n):=rfl
@[go_sem] theorem push_look_arg : (h.push l o).look (.arg n) = h.look (.arg n):=rfl
@[go_sem] theorem nw_ob : (h.nw t v).ob h.next u w = h.nw u w:=by
 simp only [HP.nw,HP.ob,HP.set]; congr 1; funext k; by_cases e : k = h.next <;> simp [e]
end
section
variable {T : Nat → Option MFun} {cx : Cx} {k : List Item} {kill : List Nat} {r : List MOp} {sl : Slots} {own : Own} {h : HP} {Q : St → Prop}
@[go_sem] theorem fg_ob (n l t : Nat) (p : List Nat) (u : Ty) : fg (.ptr (.obj n) p u) (.stk l t) = .ptr (.obj n) p u:=fg_ptr (below_obj n l) p u
@[go_sem] theorem leads_ob (n l t : Nat) (p : List Nat) (u : Ty) : (AV.ptr (.obj n) p u).leads (.stk l t) = false:=leads_ptr (below_obj n l) p u
@[go_sem] theorem fg_obs (n l t : Nat) (a b : Nat) : fg (.sl (.obj n) a b) (.stk l t) = .sl (.obj n) a b:=fg_sl (below_obj n l) a b
@[go_sem] theorem fg_args (n l t : Nat) (a b : Nat) : fg (.sl (.arg n) a b) (.stk l t) = .sl (.arg n) a b:=fg_sl (below_arg n l) a b
@[go_sem] theorem fg_slz (i : Id) : fg .slz i = .slz:=rfl
@[go_sem] theorem leads_slz (i : Id) : AV.slz.leads i = false:=rfl
@[go_sem] theorem leads_nilsl (i : Id) : AV.nilsl.leads i = false:=rfl
@[go_sem] theorem leads_obs (n l t : Nat) (a b : Nat) : (AV.sl (.obj n) a b).leads (.stk l t) = false:=by simp [AV.leads,AV.isAgg,AV.names]
@[go_sem] theorem leads_args (n l t : Nat) (a b : Nat) : (AV.sl (.arg n) a b).leads (.stk l t) = false:=by simp [AV.leads,AV.isAgg,AV.names]
@[go_sem] theorem rd_look (n : Nat) (p : List Nat) : St.rd cx ⟨sl,own,h⟩ (.obj n) p = (h.look (.obj n)).bind fun b=>b.val.at p:=rfl
@[go_sem] theorem rd_look_arg (n : Nat) (p : List Nat) : St.rd cx ⟨sl,own,h⟩ (.arg n) p = (h.look (.arg n)).bind fun b=>b.val.at p:=rfl
@[go_sem] theorem look_obj (n : Nat) : St.look cx ⟨sl,own,h⟩ (.obj n) = h.look (.obj n):=rfl
@[go_sem] theorem look_arg (n : Nat) : St.look cx ⟨sl,own,h⟩ (.arg n) = h.look (.arg n):=rfl
@[go_sem] theorem apart_ob (n m : Nat) (p : List Nat) (u : Ty) : AV.apart (.obj n) (.ptr (.obj m) p u) = !decide (m = n):=by
 simp only [AV.apart]; congr 1; rw [Bool.eq_iff_iff]; simp
@[go_sem] theorem apart_obstk (n l t : Nat) (p : List Nat) (u : Ty) : AV.apart (.obj n) (.ptr (.stk l t) p u) = true:=by simp [AV.apart]
@[go_sem] theorem apart_stkob (n l t : Nat) (p : List Nat) (u : Ty) : AV.apart (.stk l t) (.ptr (.obj n) p u) = true:=apart_ptr (below_obj n l) p u
theorem stV_ob {n : Nat} {t : Ty} {p : List Nat} {v : AV} (hl : cx.prot.lets (.obj n) = true) : stV cx t (.ptr (.obj n) p t) v ⟨sl,own,h⟩ =
  if t.fits v = true then (h.look (.obj n)).bind fun b=>(b.val.put p v).map fun u=>⟨sl,own,h.ob n b.ty u⟩ else none:=by
 simp only [stV,true_and,St.look,Id.own]
 split
 ·cases h.look (.obj n) with
  | none=>rfl
  | some b =>
   simp only [Option.bind]
   cases b.val.put p v with
   | none=>rfl
   | some u=>simp only [St.write,Id.own,hl,if_true,Option.map]; rfl
 ·rfl
theorem WG_dec {p : Prop} [Decidable p] {c : Bool} {d : Option Nat} {o : MK} {s : St} (h1 : p → WG T cx (.bool true) c d o r kill k s Q) (h2 : ¬p → WG T cx (.bool false) c d o r kill k s Q) : WG T cx (.bool (decide p)) c d o r kill k s Q:=by
 by_cases hp : p
 ·rw [decide_eq_true hp]; exact h1 hp
 ·rw [decide_eq_false hp]; exact h2 hp
theorem WC_dec {p : Prop} [Decidable p] {t e : MC} {s : St} (h1 : p → WC T cx (.bool true) t e k s Q) (h2 : ¬p → WC T cx (.bool false) t e k s Q) : WC T cx (.bool (decide p)) t e k s Q:=by
 by_cases hp : p
 ·rw [decide_eq_true hp]; exact h1 hp
 ·rw [decide_eq_false hp]; exact h2 hp
theorem WG_ndec {p : Prop} [Decidable p] {c : Bool} {d : Option Nat} {o : MK} {s : St} (h1 : p → WG T cx (.bool false) c d o r kill k s Q) (h2 : ¬p → WG T cx (.bool true) c d o r kill k s Q) : WG T cx (.bool (!decide p)) c d o r kill k s Q:=by
 by_cases hp : p
 ·rw [decide_eq_true hp]; exact h1 hp
 ·rw [decide_eq_false hp]; exact h2 hp
theorem WC_ndec {p : Prop} [Decidable p] {t e : MC} {s : St} (h1 : p → WC T cx (.bool false) t e k s Q) (h2 : ¬p → WC T cx (.bool true) t e k s Q) : WC T cx (.bool (!decide p)) t e k s Q:=by
 by_cases hp : p
 ·rw [decide_eq_true hp]; exact h1 hp
 ·rw [decide_eq_false hp]; exact h2 hp
theorem WG_bool {b : Bool} {c : Bool} {d : Option Nat} {o : MK} {s : St} (h1 : b = true → WG T cx (.bool true) c d o r kill k s Q) (h2 : b = false → WG T cx (.bool false) c d o r kill k s Q) : WG T cx (.bool b) c d o r kill k s Q:=by
 cases b
 ·exact h2 rfl
 ·exact h1 rfl
theorem WC_bool {b : Bool} {t e : MC} {s : St} (h1 : b = true → WC T cx (.bool true) t e k s Q) (h2 : b = false → WC T cx (.bool false) t e k s Q) : WC T cx (.bool b) t e k s Q:=by
 cases b
 ·exact h2 rfl
 ·exact h1 rfl
theorem W_callR {prot : Bool} {f : Nat} {args : List Opd} {d : Option Nat} {fn : MFun} {R : AV → HP → Prop} (hf : T f = some fn) (hp : fn.params = args.length ∧ fn.nfree = 0)
  (hc : Ok T (St.callCx ⟨sl,own,h⟩ cx prot) fn (St.enter (args.map (St.opd ⟨sl,own,h⟩)) (h.push cx.lvl own)) fun v' h'=>∃ h1 : HP,h' = h1.push cx.lvl own ∧ h1.stk = h.stk ∧ R v' h1)
  (hq : ∀ v h1,R v h1 → W T cx (.ops r kill :: k) (St.setd ⟨sl,own,h1⟩ d v) Q) :
  W T cx (.ops (⟨d,.call prot [] f args,none⟩ :: r) kill :: k) ⟨sl,own,h⟩ Q:=by
 refine W_callr hf hp hc ?_
 rintro v h' ⟨h1,rfl,hs,hR⟩
 have : St.pop ⟨sl,own,h⟩ cx.lvl [] (h1.push cx.lvl own) = ⟨sl,own,h1⟩:=by
  simp only [St.pop,HP.pop,HP.push,Own.unveil,if_true]
  congr 1
  cases h1
  simp only at hs
  subst hs
  simp only [HP.mk.injEq,and_true]
  funext l
  by_cases hl : l = cx.lvl <;> simp [hl]
 rw [this]; exact hq v h1 hR
theorem W_forE {α : Type} {keep ko : List Nat} {b : MC} {s : St} (N : Nat) (S : Nat → α → St) (P : Nat → α → Prop) (a0 : α) (h0 : s.keep keep ko = S 0 a0) (p0 : P 0 a0)
  (step : ∀ j a,j ≤ N → P j a → (∀ s' a',j < N → s'.keep keep ko = S (j + 1) a' → P (j + 1) a' → W T cx (.inLoop keep ko b :: k) s' Q) → W T cx (.code b :: .inLoop keep ko b :: k) (S j a) Q) :
  W T cx (.code (.loop keep ko b) :: k) s Q :=
 W_loop N (fun j s=>∃ a,s = S j a ∧ P j a) ⟨a0,h0,p0⟩ fun j s hj hs ih=>by
  obtain ⟨a,rfl,hp⟩:=hs
  exact step j a hj hp fun s' a' hlt he hp'=>ih s' hlt ⟨a',he,hp'⟩
@[go_sem] theorem pickV_sel (c : Bool) (x y : AV) : pickV (.bool c) x y = some (if c = true then x else y):=by cases c <;> rfl
end
structure SStep where
 kind : Int
 dir : Int
 toDir : Int
 p : Int
 name : Str
 to : Str
 text : Str
def SStep.enc (x : SStep) : AV:=.cons (.int .i64 x.kind) (.cons (.int .i64 x.dir) (.cons (.int .i64 x.toDir) (.cons (.int .i64 x.p) (.cons (.str x.name) (.cons (.str x.to) (.cons (.str x.text) .unit))))))
@[go_sem] theorem at_step0 (x : SStep) : x.enc.at [0] = some (.int .i64 x.kind):=rfl
@[go_sem] theorem at_step1 (x : SStep) : x.enc.at [1] = some (.int .i64 x.dir):=rfl
@[go_sem] theorem at_step2 (x : SStep) : x.enc.at [2] = some (.int .i64 x.toDir):=rfl
@[go_sem] theorem at_step3 (x : SStep) : x.enc.at [3] = some (.int .i64 x.p):=rfl
@[go_sem] theorem at_step4 (x : SStep) : x.enc.at [4] = some (.str x.name):=rfl
@[go_sem] theorem at_step5 (x : SStep) : x.enc.at [5] = some (.str x.to):=rfl
@[go_sem] theorem at_step6 (x : SStep) : x.enc.at [6] = some (.str x.text):=rfl
@[go_sem] theorem field_step0 : tStep.field 0 = some tI:=rfl
@[go_sem] theorem field_step1 : tStep.field 1 = some tI:=rfl
@[go_sem] theorem field_step2 : tStep.field 2 = some tI:=rfl
@[go_sem] theorem field_step3 : tStep.field 3 = some tI:=rfl
@[go_sem] theorem field_step4 : tStep.field 4 = some tS:=rfl
@[go_sem] theorem field_step5 : tStep.field 5 = some tS:=rfl
@[go_sem] theorem field_step6 : tStep.field 6 = some tS:=rfl
@[go_sem] theorem fits_step (x : SStep) : (tStep.fits x.enc = true) = True:=eq_true rfl
@[go_sem] theorem fg_step (x : SStep) (i : Id) : fg x.enc i = x.enc:=rfl
@[go_sem] theorem leads_step (x : SStep) (i : Id) : x.enc.leads i = false:=rfl
@[go_sem] theorem isAgg_step (x : SStep) : x.enc.isAgg = true:=rfl
@[go_sem] theorem safe_step (x : SStep) : x.enc.safe = true:=rfl
def dirFaultN (d : Int) (s : Str) : Int:=if d < 0 ∨ 3 ≤ d then 1 else if isName s = true then 0 else 2
def stepFault (x : SStep) : Int :=
 if x.kind < 1 ∨ 6 < x.kind then 7 else
 if dirFaultN x.dir x.name ≠ 0 then dirFaultN x.dir x.name else
 if x.kind = 2 ∨ x.kind = 4 then dirFaultN x.toDir x.to else
 if (x.kind = 5 ∨ x.kind = 6) ∧ (x.p < 0 ∨ 2 ≤ x.p) then 1 else
 if x.kind = 5 ∧ 8 < x.text.size then 3 else 0
section
variable {cx : Cx} {h : HP}
theorem NameX_ok {s : Str} (hs : s.size ≤ 9223372036854775807) : Ok tblE cx Fn.image_Name (St.enter [.str s] h) fun v h'=>v = .bool (isName s) ∧ h' = h:=by
 rw [Ok_eq]
 simp (maxSteps:=999999) (disch:=omega) only [go_sem]
 refine W_forP s.size (fun j=>⟨[(0,.str s),(5,.int .i64 s.size),(6,.int .i64 j)],[],h⟩) (fun j=>∀ i,i < j → badByte s i = false) (by simp only [go_sem] <;> rfl) (fun i hi=>by omega) fun j hj hp ih=>?_
 by_cases hlt : j < s.size
 ·simp (maxSteps:=999999) (disch:=omega) only [go_sem,hlt]
  by_cases h1 : byteAt s j < 97
  ·simp (maxSteps:=999999) (disch:=omega) only [go_sem,hlt]
   have : anyN s.size (badByte s) = true:=anyN_at hlt (by simp [badByte,h1])
   simp [isName,this]
  ·by_cases h2 : 122 < byteAt s j
   ·simp (maxSteps:=999999) (disch:=omega) only [go_sem,hlt]
    have : anyN s.size (badByte s) = true:=anyN_at hlt (by simp [badByte,h2])
    simp [isName,this]
   ·simp (maxSteps:=999999) (disch:=omega) only [go_sem,hlt]
    refine ih _ hlt (step_all hp (by simp [badByte,h1,h2])) ?_
    simp only [go_sem]
 ·obtain rfl : j = s.size:=by omega
  have hn : anyN s.size (badByte s) = false:=anyN_false.2 hp
  simp (maxSteps:=999999) (disch:=omega) only [go_sem]
  by_cases h1 : s = ⟨#[]⟩
  ·simp (maxSteps:=999999) (disch:=omega) only [go_sem,h1]; simp [isName]
  ·by_cases h2 : s.size ≤ 6
   ·simp (maxSteps:=999999) (disch:=omega) only [go_sem,h1]
    simp [isName,hn,h1,h2]
   ·simp (maxSteps:=999999) (disch:=omega) only [go_sem,h1]
    simp [isName,hn,h1,h2]
theorem icheck_ok {d : Int} {s : Str} (hs : s.size ≤ 9223372036854775807) : Ok tblE cx Fn.ideal_check (St.enter [.int .i64 d,.str s] h) fun v h'=>v = .int .i64 (dirFaultN d s) ∧ h' = h:=by
 rw [Ok_eq]
 by_cases c1 : d < 0
 ·simp (maxSteps:=999999) (disch:=omega) only [go_sem,c1]; simp [dirFaultN,c1]
 ·by_cases c2 : 3 ≤ d
  ·simp (maxSteps:=999999) (disch:=omega) only [go_sem,c1,c2]; simp [dirFaultN,c2]
  ·simp (maxSteps:=999999) (disch:=omega) only [go_sem,c1,c2]
   refine W_callp rfl ⟨rfl,rfl⟩ (by simp only [go_sem]; exact NameX_ok hs) ?_
   cases c3 : isName s <;> simp (maxSteps:=999999) (disch:=omega) only [go_sem,c3] <;> simp [dirFaultN,c1,c2,c3]
theorem ICheck_ok {x : SStep} (h1 : x.name.size ≤ 9223372036854775807) (h2 : x.to.size ≤ 9223372036854775807) (h3 : x.text.size ≤ 9223372036854775807) : Ok tblE cx Fn.ideal_Check (St.enter [x.enc] h) fun v h'=>v = .int .i64 (stepFault x) ∧ h' = h:=by
 rw [Ok_eq]
 simp (maxSteps:=999999) (disch:=omega) only [go_sem]
 by_cases c1 : x.kind < 1
 ·simp (maxSteps:=999999) (disch:=omega) only [go_sem,c1]; simp [stepFault,c1]
 by_cases c2 : 6 < x.kind
 ·simp (maxSteps:=999999) (disch:=omega) only [go_sem,c1,c2]; simp [stepFault,c2]
 simp (maxSteps:=999999) (disch:=omega) only [go_sem,c1,c2]
 refine W_callp rfl ⟨rfl,rfl⟩ (by simp only [go_sem]; exact icheck_ok h1) ?_
 simp (maxSteps:=999999) (disch:=omega) only [go_sem]
 by_cases c3 : dirFaultN x.dir x.name = 0
 ·simp (maxSteps:=999999) (disch:=omega) only [go_sem,c3]
  by_cases c4 : x.kind = 2
  ·simp (maxSteps:=999999) (disch:=omega) only [go_sem,c4]
   refine W_callp rfl ⟨rfl,rfl⟩ (by simp only [go_sem]; exact icheck_ok h2) ?_
   simp (maxSteps:=999999) (disch:=omega) only [go_sem]; simp [stepFault,c3,c4]
  by_cases c5 : x.kind = 4
  ·simp (maxSteps:=999999) (disch:=omega) only [go_sem,c4,c5]
   refine W_callp rfl ⟨rfl,rfl⟩ (by simp only [go_sem]; exact icheck_ok h2) ?_
   simp (maxSteps:=999999) (disch:=omega) only [go_sem]; simp [stepFault,c3,c5]
  simp (maxSteps:=999999) (disch:=omega) only [go_sem,c4,c5]
  (repeat' (first | simp (maxSteps:=999999) (disch:=first | assumption | omega) only [go_sem] | refine WG_ndec (fun _=>?_) (fun _=>?_) | refine WC_ndec (fun _=>?_) (fun _=>?_) | refine WG_dec (fun _=>?_) (fun _=>?_) | refine WC_dec (fun _=>?_) (fun _=>?_) | refine WG_bool (fun _=>?_) (fun _=>?_) | refine WC_bool (fun _=>?_) (fun _=>?_))) <;> simp_all [stepFault] <;> omega
 ·simp (maxSteps:=999999) (disch:=omega) only [go_sem,c3]
  simp [stepFault,c1,c2,c3]
end
def freeIno (a b : Img) : Int:=findN 8 fun k=>!(a.ino k).live && decide (refs b k = 0)
def freeDat (a b : Img) : Int:=findN 9 fun x=>!held a x && !held b x
def room (a b : Img) (d : Int) (s : Str) : Int:=if 0 ≤ slotOf b d s then -1 else freeSlot a b d
def addName (a : Img) (d s : Nat) (name : Str) (n : Nat) : Img :=
 (a.setEnt d s ⟨name,n,(a.ino n).stamp⟩).setIno n { a.ino n with links:=IntKind.i64.wrap ((a.ino n).links + 1) }
def dropName (a : Img) (d s : Nat) : Img :=
 let n:=(a.ent d s).ino.toNat
 let i : Ino:={ a.ino n with links:=IntKind.i64.wrap ((a.ino n).links - 1) }
 if i.links = 0 then (a.setEnt d s .zero).setIno n .none else (a.setEnt d s .zero).setIno n i
def enterC (a b : Img) (d : Int) (name : Str) : Int:=if 0 ≤ slotOf a d name then 4 else if room a b d name < 0 then 6 else 0
def enterA (a b : Img) (d : Int) (name : Str) (n : Nat) : Img:=if enterC a b d name = 0 then addName a d.toNat (room a b d name).toNat name n else a
def newIno (st : Int) : Ino:=⟨true,st,0,Ino.none.part⟩
structure Fl where
 now : Img
 disk : Img
 stamp : Int
def makeC (F : Fl) (d : Int) (name : Str) : Int:=if 0 ≤ slotOf F.now d name then 4 else if freeIno F.now F.disk < 0 ∨ room F.now F.disk d name < 0 then 6 else 0
def makeF (F : Fl) (d : Int) (name : Str) : Fl:=if makeC F d name = 0 then
  ⟨addName (F.now.setIno (freeIno F.now F.disk).toNat (newIno (IntKind.i64.wrap (F.stamp + 1)))) d.toNat (room F.now F.disk d name).toNat name (freeIno F.now F.disk).toNat,F.disk,IntKind.i64.wrap (F.stamp + 1)⟩ else F
def putC (a b : Img) (n p : Nat) : Int:=if (a.ino n).prt p < 0 ∧ freeDat a b < 0 then 6 else 0
def putA (a b : Img) (n p : Nat) (t : Str) : Img:=if (a.ino n).prt p < 0 then
  (if freeDat a b < 0 then a else (a.setIno n ((a.ino n).setPrt p (freeDat a b))).setDat (freeDat a b).toNat ⟨(a.ino n).stamp,t⟩)
 else a.setDat ((a.ino n).prt p).toNat ⟨(a.ino n).stamp,t⟩
def doC (F : Fl) (x : SStep) : Int :=
 if stepFault x ≠ 0 then stepFault x else
 if x.kind = 1 then makeC F x.dir x.name else
 if slotOf F.now x.dir x.name < 0 then 5 else
 if x.kind = 2 ∨ x.kind = 4 then enterC F.now F.disk x.toDir x.to else
 if x.kind = 5 then putC F.now F.disk (F.now.ent x.dir.toNat (slotOf F.now x.dir x.name).toNat).ino.toNat x.p.toNat else 0
def doF (F : Fl) (x : SStep) : Fl :=
 if doC F x ≠ 0 then F else
 if x.kind = 1 then makeF F x.dir x.name else
 let s:=(slotOf F.now x.dir x.name).toNat
 let n:=(F.now.ent x.dir.toNat s).ino.toNat
 if x.kind = 2 then { F with now:=enterA F.now F.disk x.toDir x.to n } else
 if x.kind = 4 then { F with now:=dropName (enterA F.now F.disk x.toDir x.to n) x.dir.toNat s } else
 if x.kind = 3 then { F with now:=dropName F.now x.dir.toNat s } else
 if x.kind = 5 then { F with now:=putA F.now F.disk n x.p.toNat x.text } else
 { F with now:=F.now.setIno n ((F.now.ino n).setPrt x.p.toNat (-1)) }
def WF (a : Img) : Prop:=(∀ d s,0 ≤ (a.ent d s).ino ∧ (a.ent d s).ino < 8) ∧ ∀ n p,-1 ≤ (a.ino n).prt p ∧ (a.ino n).prt p < 9
theorem stepFault_zero {x : SStep} (h : stepFault x = 0) : (1 ≤ x.kind ∧ x.kind ≤ 6) ∧ (0 ≤ x.dir ∧ x.dir < 3) ∧ isName x.name = true ∧ (x.kind = 2 ∨ x.kind = 4 → (0 ≤ x.toDir ∧ x.toDir < 3) ∧ isName x.to = true) ∧ (x.kind = 5 ∨ x.kind = 6 → 0 ≤ x.p ∧ x.p < 2) ∧ (x.kind = 5 → x.text.size ≤ 8):=by
 unfold stepFault at h
 split at h
 ·omega
 split at h
 ·exact absurd h (by assumption)
 rename_i h1 h2
 have h2 : dirFaultN x.dir x.name = 0:=by simpa using h2
 have key : ∀ d s,dirFaultN d s = 0 → (0 ≤ d ∧ d < 3) ∧ isName s = true:=by
  intro d s hd
  unfold dirFaultN at hd
  split at hd
  ·omega
  ·split at hd
   ·rename_i h3 h4; exact ⟨by omega,h4⟩
   ·omega
 obtain ⟨k1,k2⟩:=key _ _ h2
 refine ⟨by omega,k1,k2,fun hk=>?_,fun hk=>?_,fun hk=>?_⟩
 ·rw [if_pos hk] at h; exact key _ _ h
 ·rw [if_neg (by omega)] at h
  split at h
  ·omega
  ·rename_i h3; omega
 ·rw [if_neg (by omega)] at h
  split at h
  ·omega
  ·split at h
   ·omega
   ·rename_i h3 h4; omega
theorem slotOf_cases (a : Img) (d : Int) (s : Str) : slotOf a d s = -1 ∨ ∃ k : Nat,k < 4 ∧ slotOf a d s = k ∧ 0 ≤ d ∧ d < 3 ∧ (a.ent d.toNat k).name = s ∧ ¬s = ⟨#[]⟩:=by
 unfold slotOf
 split
 ·exact .inl rfl
 ·rename_i hn
  rcases findN_lt (f:=fun k=>decide ((a.ent d.toNat k).name = s)) (n:=4) with e | ⟨j,h1,e,h2,_⟩
  ·exact .inl e
  ·exact .inr ⟨j,h1,e,by omega,by omega,by simpa using h2,fun e'=>hn (by simp [e'])⟩
theorem freeSlot_cases (a b : Img) (d : Int) : freeSlot a b d = -1 ∨ ∃ k : Nat,k < 4 ∧ freeSlot a b d = k ∧ 0 ≤ d ∧ d < 3 ∧ (a.ent d.toNat k).name = ⟨#[]⟩ ∧ (b.ent d.toNat k).name = ⟨#[]⟩:=by
 unfold freeSlot
 split
 ·exact .inl rfl
 ·rename_i hn
  rcases findN_lt (f:=fun s=>decide ((a.ent d.toNat s).name = ⟨#[]⟩) && decide ((b.ent d.toNat s).name = ⟨#[]⟩)) (n:=4) with e | ⟨j,h1,e,h2,_⟩
  ·exact .inl e
  ·simp at h2
   exact .inr ⟨j,h1,e,by omega,by omega,h2.1,h2.2⟩
theorem room_cases (a b : Img) (d : Int) (s : Str) : room a b d s = -1 ∨ ∃ k : Nat,k < 4 ∧ room a b d s = k ∧ 0 ≤ d ∧ d < 3 ∧ (a.ent d.toNat k).name = ⟨#[]⟩ ∧ (b.ent d.toNat k).name = ⟨#[]⟩ ∧ slotOf b d s < 0:=by
 unfold room
 split
 ·exact .inl rfl
 ·rename_i hn
  rcases freeSlot_cases a b d with e | ⟨k,h1,e,h2,h3,h4,h5⟩
  ·exact .inl e
  ·exact .inr ⟨k,h1,e,h2,h3,h4,h5,by omega⟩
theorem freeIno_cases (a b : Img) : freeIno a b = -1 ∨ ∃ k : Nat,k < 8 ∧ freeIno a b = k ∧ (a.ino k).live = false ∧ refs b k = 0:=by
 rcases findN_lt (f:=fun k=>!(a.ino k).live && decide (refs b k = 0)) (n:=8) with e | ⟨j,h1,e,h2,_⟩
 ·exact .inl e
 ·simp at h2; exact .inr ⟨j,h1,e,h2.1,h2.2⟩
theorem freeDat_cases (a b : Img) : freeDat a b = -1 ∨ ∃ k : Nat,k < 9 ∧ freeDat a b = k ∧ held a k = false ∧ held b k = false:=by
 rcases findN_lt (f:=fun x=>!held a x && !held b x) (n:=9) with e | ⟨j,h1,e,h2,_⟩
 ·exact .inl e
 ·simp at h2; exact .inr ⟨j,h1,e,h2.1,h2.2⟩
def encF (c : Nat) (st : Int) : AV:=.cons (.ptr (.obj c) [] tCache) (.cons (.int .i64 st) .unit)
@[go_sem] theorem at_F0 (c : Nat) (st : Int) : (encF c st).at [0] = some (.ptr (.obj c) [] tCache):=rfl
@[go_sem] theorem at_F1 (c : Nat) (st : Int) : (encF c st).at [1] = some (.int .i64 st):=rfl
@[go_sem] theorem put_F1 (c : Nat) (st n : Int) : (encF c st).put [1] (.int .i64 n) = some (encF c n):=rfl
@[go_sem] theorem field_F0 : tFiles.field 0 = some tP:=rfl
@[go_sem] theorem field_F1 : tFiles.field 1 = some tI:=rfl
@[go_sem] theorem fits_F (c : Nat) (st : Int) : (tFiles.fits (encF c st) = true) = True:=eq_true rfl
@[go_sem] theorem fitO_ptr (n : Nat) (p : List Nat) (t : Ty) : fitO tP (some (.ptr (.obj n) p t)) = some (.ptr (.obj n) p t):=rfl
@[go_sem] theorem fill_F (c : Nat) : fill tFiles tFiles.zero [(0,.ptr (.obj c) [] tCache)] = some (encF c 0):=rfl
@[go_sem] theorem fits_boxF (c : Nat) (st : Int) (i : Id) : fg (encF c st) i = encF c st:=rfl
@[go_sem] theorem fits_tP (n : Nat) (p : List Nat) (t : Ty) : (tP.fits (.ptr (.obj n) p t) = true) = True:=eq_true rfl
@[go_sem] theorem put_C0 (a b : Img) (p : List Nat) (x : AV) : (encC a b).put (0 :: p) x = (a.enc.put p x).map fun y=>.cons y (.cons b.enc .unit):=rfl
@[go_sem] theorem put_C1 (a b : Img) (p : List Nat) (x : AV) : (encC a b).put (1 :: p) x = (b.enc.put p x).map fun y=>.cons a.enc (.cons y .unit):=by
 show ((b.enc.put p x).map fun y=>AV.cons y .unit).map (fun y=>AV.cons a.enc y) = _
 cases b.enc.put p x <;> rfl
@[go_sem] theorem Cmk (a b : Img) : AV.cons a.enc (.cons b.enc .unit) = encC a b:=rfl
@[go_sem] theorem results_nil {cx : Cx} {s : St} : results cx s [] = some (.tup .unit):=rfl
theorem ob_self {h : HP} {n : Nat} {t : Ty} {v : AV} (e : h.look (.obj n) = some ⟨t,v⟩) : h.ob n t v = h:=by
 cases h
 simp only [HP.look] at e
 simp only [HP.ob,HP.set,HP.mk.injEq,and_true,true_and]
 funext k
 by_cases hk : k = n <;> simp [hk,e]
section
variable {cx : Cx} {h : HP} {c : Nat} {a b : Img}
theorem eDisk (hC : h.look (.obj c) = some ⟨tCache,encC a b⟩) : Ok tblE cx Fn.cache_Cache_Disk (St.enter [.ptr (.obj c) [] tCache] h) fun v h'=>v = b.enc ∧ h' = h:=upE (CDisk_ok (rd_of hC).1 (rd_of hC).2)
theorem eInode (hC : h.look (.obj c) = some ⟨tCache,encC a b⟩) : Ok tblE cx Fn.cache_Cache_Inode (St.enter [.ptr (.obj c) [] tCache] h) fun v h'=>v = .int .i64 (freeIno a b) ∧ h' = h:=upE (CInode_ok (rd_of hC).1 (rd_of hC).2)
theorem eData (hC : h.look (.obj c) = some ⟨tCache,encC a b⟩) : Ok tblE cx Fn.cache_Cache_Data (St.enter [.ptr (.obj c) [] tCache] h) fun v h'=>v = .int .i64 (freeDat a b) ∧ h' = h:=upE (CData_ok (rd_of hC).1 (rd_of hC).2)
theorem eSlot {d : Int} (hC : h.look (.obj c) = some ⟨tCache,encC a b⟩) : Ok tblE cx Fn.cache_Cache_Slot (St.enter [.ptr (.obj c) [] tCache,.int .i64 d] h) fun v h'=>v = .int .i64 (freeSlot a b d) ∧ h' = h:=upE (CSlot_ok (rd_of hC).1 (rd_of hC).2)
theorem eFind0 {d : Int} {s : Str} (hC : h.look (.obj c) = some ⟨tCache,encC a b⟩) : Ok tblE cx Fn.image_Find (St.enter [.ptr (.obj c) [0] tImage,.int .i64 d,.str s] h) fun v h'=>v = .int .i64 (slotOf a d s) ∧ h' = h:=upE (up (Find_ok (below_obj _ _) (rd_of hC).1))
theorem free_ok {f : Nat} {st d : Int} {s : Str} (hF : h.look (.obj f) = some ⟨tFiles,encF c st⟩) (hC : h.look (.obj c) = some ⟨tCache,encC a b⟩) :
  Ok tblE cx Fn.soft_Files_free (St.enter [.ptr (.obj f) [] tFiles,.int .i64 d,.str s] h) fun v h'=>v = .int .i64 (room a b d s) ∧ h' = h:=by
 rw [Ok_eq]
 simp (maxSteps:=999999) (disch:=omega) only [go_sem,hF,hC]
 refine W_callp rfl ⟨rfl,rfl⟩ (by simp only [go_sem]; exact eDisk (a:=a) (b:=b) (by simp only [go_sem,hC])) ?_
 simp (maxSteps:=999999) (disch:=omega) only [go_sem,hF,hC]
 refine W_callp rfl ⟨rfl,rfl⟩ (by simp only [go_sem]; exact upE (up (Find_ok (m:=b) (below_stk _ _) (by simp only [go_sem,HP.push_rd_own])))) ?_
 simp (maxSteps:=999999) (disch:=omega) only [go_sem,hF,hC]
 by_cases c1 : 0 ≤ slotOf b d s
 ·simp (maxSteps:=999999) (disch:=omega) only [go_sem,c1]; simp [room,c1]
 ·simp (maxSteps:=999999) (disch:=omega) only [go_sem,c1,hF,hC]
  refine W_callp rfl ⟨rfl,rfl⟩ (by simp only [go_sem]; exact eSlot (a:=a) (b:=b) (by simp only [go_sem,hC])) ?_
  simp (maxSteps:=999999) (disch:=omega) only [go_sem]; simp [room,c1]
theorem enter_ok {f n : Nat} {st d : Int} {s : Str} (hl : ∀ n,cx.prot.lets (.obj n) = true) (hF : h.look (.obj f) = some ⟨tFiles,encF c st⟩) (hC : h.look (.obj c) = some ⟨tCache,encC a b⟩) (hne : ¬f = c) (hn : n < 8) :
  Ok tblE cx Fn.soft_Files_enter (St.enter [.ptr (.obj f) [] tFiles,.int .i64 d,.str s,.int .i64 n] h) fun v h'=>v = .int .i64 (enterC a b d s) ∧ h' = h.ob c tCache (encC (enterA a b d s n) b):=by
 rw [Ok_eq]
 simp (maxSteps:=999999) (disch:=omega) only [go_sem,hF,hC]
 refine W_callp rfl ⟨rfl,rfl⟩ (by simp only [go_sem]; exact eFind0 (a:=a) (b:=b) (by simp only [go_sem,hC])) ?_
 simp (maxSteps:=999999) (disch:=omega) only [go_sem]
 by_cases c1 : 0 ≤ slotOf a d s
 ·simp (maxSteps:=999999) (disch:=omega) only [go_sem,c1]
  simp [enterC,enterA,c1,ob_self hC]
 simp (maxSteps:=999999) (disch:=omega) only [go_sem,c1]
 refine W_callp rfl ⟨rfl,rfl⟩ (by simp only [go_sem]; exact free_ok (a:=a) (b:=b) (c:=c) (st:=st) (by simp only [go_sem,hF]) (by simp only [go_sem,hC])) ?_
 simp (maxSteps:=999999) (disch:=omega) only [go_sem]
 rcases room_cases a b d s with e | ⟨k,hk,e,d0,d3,_⟩
 ·simp (maxSteps:=999999) (disch:=omega) only [go_sem,e]
  simp [enterC,enterA,c1,e,ob_self hC]
 ·have k0 : ¬(k : Int) < 0:=by omega
  simp (maxSteps:=999999) (disch:=omega) only [go_sem,e,k0,hF,hC,stV_ob (hl _),look_ob_ne hne]
  simp [enterC,enterA,c1,e,k0,addName]
end
theorem setIno_setIno (m : Img) (n : Nat) (x y : Ino) : (m.setIno n x).setIno n y = m.setIno n y:=by
 refine Img.ext_of (fun k hk=>?_) (fun d s _ _=>rfl) (fun x _=>rfl)
 simp only [ino_setIno]
 split <;> rfl
theorem enterC_setIno (a b : Img) (n : Nat) (y : Ino) (d : Int) (s : Str) : enterC (a.setIno n y) b d s = enterC a b d s:=rfl
theorem room_setIno (a b : Img) (n : Nat) (y : Ino) (d : Int) (s : Str) : room (a.setIno n y) b d s = room a b d s:=rfl
theorem WF_setIno {a : Img} (hw : WF a) {n : Nat} {y : Ino} (hy : ∀ p,-1 ≤ y.prt p ∧ y.prt p < 9) : WF (a.setIno n y):=by
 refine ⟨hw.1,fun k p=>?_⟩
 rw [ino_setIno]
 split
 ·exact hy p
 ·exact hw.2 k p
theorem WF_setEnt {a : Img} (hw : WF a) {d s : Nat} {y : Ent} (hy : 0 ≤ y.ino ∧ y.ino < 8) : WF (a.setEnt d s y):=by
 refine ⟨fun d' s'=>?_,fun k p=>?_⟩
 ·rw [ent_setEnt]
  split
  ·exact hy
  ·exact hw.1 d' s'
 ·rw [ino_setEnt]; exact hw.2 k p
theorem WF_setDat {a : Img} (hw : WF a) {n : Nat} {y : Dat} : WF (a.setDat n y):=hw
theorem prt_none (p : Nat) : -1 ≤ Ino.none.prt p ∧ Ino.none.prt p < 9:=by
 by_cases hp : p < 2
 ·simp [Ino.prt,Ino.none,hp]
 ·simp [Ino.prt,hp]
theorem prt_with (i : Ino) (l : Int) (p : Nat) : Ino.prt ⟨i.live,i.stamp,l,i.part⟩ p = i.prt p:=rfl
theorem prt_new (st : Int) (p : Nat) : (newIno st).prt p = Ino.none.prt p:=rfl
theorem WF_addName {a : Img} (hw : WF a) {d s n : Nat} {name : Str} (n8 : n < 8) : WF (addName a d s name n) :=
 WF_setIno (WF_setEnt hw ⟨by show 0 ≤ (n : Int); omega,by show (n : Int) < 8; omega⟩) fun p=>by rw [prt_with]; exact hw.2 n p
theorem WF_dropName {a : Img} (hw : WF a) {d s : Nat} : WF (dropName a d s):=by
 have h0 : WF (a.setEnt d s .zero):=WF_setEnt hw ⟨by decide,by decide⟩
 unfold dropName
 dsimp only
 split
 ·exact WF_setIno h0 prt_none
 ·exact WF_setIno h0 fun p=>by rw [prt_with]; exact hw.2 _ p
theorem WF_enterA {a b : Img} (hw : WF a) {d : Int} {s : Str} {n : Nat} (n8 : n < 8) : WF (enterA a b d s n):=by
 unfold enterA
 split
 ·exact WF_addName hw n8
 ·exact hw
theorem WF_makeF {F : Fl} (hw : WF F.now) {d : Int} {s : Str} : WF (makeF F d s).now:=by
 unfold makeF
 split
 ·rename_i hm
  rcases freeIno_cases F.now F.disk with e | ⟨n,n8,e,_⟩
  ·unfold makeC at hm
   split at hm
   ·omega
   ·rw [if_pos (.inl (by omega))] at hm; omega
  ·rw [e]
   exact WF_addName (WF_setIno hw fun p=>by rw [prt_new]; exact prt_none p) (by simpa using n8)
 ·exact hw
theorem WF_putA {a b : Img} (hw : WF a) {n p : Nat} {t : Str} : WF (putA a b n p t):=by
 unfold putA
 split
 ·split
  ·exact hw
  ·rcases freeDat_cases a b with e | ⟨k,k9,e,_⟩
   ·omega
   ·refine WF_setDat (WF_setIno hw fun q=>?_)
    rw [prt_setPrt,e]
    split
    ·omega
    ·exact hw.2 n q
 ·exact WF_setDat hw
theorem WF_doF {F : Fl} (hw : WF F.now) (x : SStep) : WF (doF F x).now:=by
 have n8 : ∀ d s,(F.now.ent d s).ino.toNat < 8:=fun d s=>by have:=hw.1 d s; omega
 unfold doF
 split
 ·exact hw
 split
 ·exact WF_makeF hw
 dsimp only
 split
 ·exact WF_enterA hw (n8 _ _)
 split
 ·exact WF_dropName (WF_enterA hw (n8 _ _))
 split
 ·exact WF_dropName hw
 split
 ·exact WF_putA hw
 ·refine WF_setIno hw fun q=>?_
  rw [prt_setPrt]
  split
  ·omega
  ·exact hw.2 _ q
section
variable {cx : Cx} {h : HP} {f c : Nat} {a b : Img} {st : Int}
theorem leave_ok {d s : Int} (hl : ∀ n,cx.prot.lets (.obj n) = true) (hF : h.look (.obj f) = some ⟨tFiles,encF c st⟩) (hC : h.look (.obj c) = some ⟨tCache,encC a b⟩) (hne : ¬f = c)
  (d0 : 0 ≤ d) (d3 : d < 3) (s0 : 0 ≤ s) (s4 : s < 4) (i0 : 0 ≤ (a.ent d.toNat s.toNat).ino) (i8 : (a.ent d.toNat s.toNat).ino < 8) :
  Ok tblE cx Fn.soft_Files_leave (St.enter [.ptr (.obj f) [] tFiles,.int .i64 d,.int .i64 s] h) fun v h'=>v = .tup .unit ∧ h' = h.ob c tCache (encC (dropName a d.toNat s.toNat) b):=by
 have n8 : (a.ent d.toNat s.toNat).ino.toNat < 8:=by omega
 rw [Ok_eq]
 simp (maxSteps:=999999) (disch:=omega) only [go_sem,hF,hC,stV_ob (hl _),look_ob_ne hne,n8]
 by_cases c1 : IntKind.i64.wrap ((a.ino (a.ent d.toNat s.toNat).ino.toNat).links - 1) = 0
 ·simp (maxSteps:=999999) (disch:=omega) only [go_sem,hF,hC,stV_ob (hl _),look_ob_ne hne,n8,c1]
  refine W_callp rfl ⟨rfl,rfl⟩ (by simp only [go_sem]; exact upE (up (Free_ok))) ?_
  simp (maxSteps:=999999) (disch:=omega) only [go_sem,hF,hC,stV_ob (hl _),look_ob_ne hne,n8,c1]
  simp [dropName,c1,setIno_setIno]
 ·simp (maxSteps:=999999) (disch:=omega) only [go_sem,hF,hC,stV_ob (hl _),look_ob_ne hne,n8,c1]
  simp [dropName,c1]
theorem make_ok {F : Fl} {d : Int} {s : Str} (hl : ∀ n,cx.prot.lets (.obj n) = true) (hF : h.look (.obj f) = some ⟨tFiles,encF c F.stamp⟩) (hC : h.look (.obj c) = some ⟨tCache,encC F.now F.disk⟩) (hne : ¬f = c) :
  Ok tblE cx Fn.soft_Files_make (St.enter [.ptr (.obj f) [] tFiles,.int .i64 d,.str s] h) fun v h'=>v = .int .i64 (makeC F d s) ∧ h' = (h.ob f tFiles (encF c (makeF F d s).stamp)).ob c tCache (encC (makeF F d s).now F.disk):=by
 rw [Ok_eq]
 have same : (h.ob f tFiles (encF c F.stamp)).ob c tCache (encC F.now F.disk) = h:=by rw [ob_self hF,ob_self hC]
 have hne' : ¬c = f:=fun e=>hne e.symm
 simp (maxSteps:=999999) (disch:=omega) only [go_sem,hF,hC]
 refine W_callp rfl ⟨rfl,rfl⟩ (by simp only [go_sem]; exact eFind0 (a:=F.now) (b:=F.disk) (by simp only [go_sem,hC])) ?_
 simp (maxSteps:=999999) (disch:=omega) only [go_sem]
 by_cases c1 : 0 ≤ slotOf F.now d s
 ·simp (maxSteps:=999999) (disch:=omega) only [go_sem,c1]
  simp [makeC,makeF,c1,same]
 simp (maxSteps:=999999) (disch:=omega) only [go_sem,c1,hF,hC]
 refine W_callp rfl ⟨rfl,rfl⟩ (by simp only [go_sem]; exact eInode (a:=F.now) (b:=F.disk) (by simp only [go_sem,hC])) ?_
 simp (maxSteps:=999999) (disch:=omega) only [go_sem]
 rcases freeIno_cases F.now F.disk with e | ⟨n,n8,e,_⟩
 ·simp (maxSteps:=999999) (disch:=omega) only [go_sem,e]
  simp [makeC,makeF,c1,e,same]
 have n0 : ¬(n : Int) < 0:=by omega
 simp (maxSteps:=999999) (disch:=omega) only [go_sem,e,n0]
 refine W_callp rfl ⟨rfl,rfl⟩ (by simp only [go_sem]; exact free_ok (a:=F.now) (b:=F.disk) (c:=c) (st:=F.stamp) (by simp only [go_sem,hF]) (by simp only [go_sem,hC])) ?_
 simp (maxSteps:=999999) (disch:=omega) only [go_sem]
 rcases room_cases F.now F.disk d s with e2 | ⟨k,k4,e2,d0,d3,_⟩
 ·simp (maxSteps:=999999) (disch:=omega) only [go_sem,e2]
  simp [makeC,makeF,c1,e,e2,same]
 have k0 : ¬(k : Int) < 0:=by omega
 simp (maxSteps:=999999) (disch:=omega) only [go_sem,e2,k0,hF,hC,stV_ob (hl _),look_ob_ne hne,look_ob_ne hne']
 refine W_callp rfl ⟨rfl,rfl⟩ (by simp only [go_sem]; exact upE (up (Free_ok))) ?_
 simp (maxSteps:=999999) (disch:=omega) only [go_sem,hF,hC,stV_ob (hl _),look_ob_ne hne,look_ob_ne hne',n8]
 rw [setIno_setIno,setIno_setIno]
 have eC : enterC F.now F.disk d s = 0:=by simp [enterC,c1,e2,k0]
 have mC : makeC F d s = 0:=by simp [makeC,c1,e,e2,n0,k0]
 have mF : makeF F d s = ⟨addName (F.now.setIno n (newIno (IntKind.i64.wrap (F.stamp + 1)))) d.toNat k s n,F.disk,IntKind.i64.wrap (F.stamp + 1)⟩:=by
  simp [makeF,mC,e,e2]
 have eA : enterA (F.now.setIno n (newIno (IntKind.i64.wrap (F.stamp + 1)))) F.disk d s n = (makeF F d s).now:=by
  rw [mF,enterA,if_pos (by rw [enterC_setIno]; exact eC),room_setIno,e2]; rfl
 have key:=fun (cy : Cx) (hy : ∀ n,cy.prot.lets (.obj n) = true)=>enter_ok (cx:=cy) (f:=f) (c:=c) (h:=((h.ob f tFiles (encF c (IntKind.i64.wrap (F.stamp + 1)))).ob c tCache (encC (F.now.setIno n (newIno (IntKind.i64.wrap (F.stamp + 1)))) F.disk)).push cx.lvl []) (a:=F.now.setIno n (newIno (IntKind.i64.wrap (F.stamp + 1)))) (b:=F.disk) (st:=IntKind.i64.wrap (F.stamp + 1)) (d:=d) (s:=s) (n:=n) hy (by simp only [go_sem,look_ob_ne hne]) (by simp only [go_sem,]) hne n8
 simp only [eA,enterC_setIno,eC,go_sem] at key
 have mS : (makeF F d s).stamp = IntKind.i64.wrap (F.stamp + 1):=by rw [mF]
 rw [mC,mS]
 refine W_callh (v:=.int .i64 0) ((h.ob f tFiles (encF c (IntKind.i64.wrap (F.stamp + 1)))).ob c tCache (encC (makeF F d s).now F.disk)) rfl ⟨rfl,rfl⟩ rfl (by simp only [go_sem]; exact key _ hl) ?_
 simp (maxSteps:=999999) (disch:=omega) only [go_sem]
end
section
variable {cx : Cx} {h : HP} {f c : Nat} {a b : Img} {st : Int}
theorem put_ok {n : Nat} {p : Int} {t : Str} (hl : ∀ n,cx.prot.lets (.obj n) = true) (hF : h.look (.obj f) = some ⟨tFiles,encF c st⟩) (hC : h.look (.obj c) = some ⟨tCache,encC a b⟩) (hne : ¬f = c)
  (hw : WF a) (n8 : n < 8) (p0 : 0 ≤ p) (p2 : p < 2) :
  Ok tblE cx Fn.soft_Files_put (St.enter [.ptr (.obj f) [] tFiles,.int .i64 n,.int .i64 p,.str t] h) fun v h'=>v = .int .i64 (putC a b n p.toNat) ∧ h' = h.ob c tCache (encC (putA a b n p.toNat t) b):=by
 have p2' : p.toNat < 2:=by omega
 have q9:=(hw.2 n p.toNat).2
 rw [Ok_eq]
 simp (maxSteps:=999999) (disch:=omega) only [go_sem,hF,hC,stV_ob (hl _),look_ob_ne hne]
 by_cases c1 : (a.ino n).prt p.toNat < 0
 ·simp (maxSteps:=999999) (disch:=omega) only [go_sem,hF,hC,stV_ob (hl _),look_ob_ne hne,c1]
  refine W_callp rfl ⟨rfl,rfl⟩ (by simp only [go_sem]; exact eData (a:=a) (b:=b) (by simp only [go_sem,hC])) ?_
  simp (maxSteps:=999999) (disch:=omega) only [go_sem]
  rcases freeDat_cases a b with e | ⟨k,k9,e,_⟩
  ·simp (maxSteps:=999999) (disch:=omega) only [go_sem,e]
   simp [putC,putA,c1,e,ob_self hC]
  ·have k0 : ¬(k : Int) < 0:=by omega
   simp (maxSteps:=999999) (disch:=omega) only [go_sem,e,k0,hF,hC,stV_ob (hl _),look_ob_ne hne,n8,p2']
   simp [putC,putA,c1,e,k0]
 ·simp (maxSteps:=999999) (disch:=omega) only [go_sem,hF,hC,stV_ob (hl _),look_ob_ne hne,c1]
  simp [putC,putA,c1]
theorem Do_ok {F : Fl} {x : SStep} (hl : ∀ n,cx.prot.lets (.obj n) = true) (hF : h.look (.obj f) = some ⟨tFiles,encF c F.stamp⟩) (hC : h.look (.obj c) = some ⟨tCache,encC F.now F.disk⟩) (hne : ¬f = c)
  (hw : WF F.now) (h1 : x.name.size ≤ 9223372036854775807) (h2 : x.to.size ≤ 9223372036854775807) (h3 : x.text.size ≤ 9223372036854775807) :
  Ok tblE cx Fn.soft_Files_Do (St.enter [.ptr (.obj f) [] tFiles,x.enc] h) fun v h'=>v = .int .i64 (doC F x) ∧ h' = (h.ob f tFiles (encF c (doF F x).stamp)).ob c tCache (encC (doF F x).now F.disk):=by
 rw [Ok_eq]
 have same : (h.ob f tFiles (encF c F.stamp)).ob c tCache (encC F.now F.disk) = h:=by rw [ob_self hF,ob_self hC]
 have sameF : ∀ v,(h.ob f tFiles (encF c F.stamp)).ob c tCache v = h.ob c tCache v:=fun v=>by rw [ob_self hF]
 have hne' : ¬c = f:=fun e=>hne e.symm
 simp (maxSteps:=999999) (disch:=omega) only [go_sem]
 refine W_callp rfl ⟨rfl,rfl⟩ (by simp only [go_sem]; exact ICheck_ok h1 h2 h3) ?_
 simp (maxSteps:=999999) (disch:=omega) only [go_sem]
 by_cases c0 : stepFault x = 0
 rotate_left
 ·simp (maxSteps:=999999) (disch:=omega) only [go_sem,c0]
  simp [doC,doF,c0,same]
 obtain ⟨⟨k1,k6⟩,⟨d0,d3⟩,hn,hto,hp,htx⟩:=stepFault_zero c0
 simp (maxSteps:=999999) (disch:=omega) only [go_sem,c0]
 by_cases c1 : x.kind = 1
 ·simp (maxSteps:=999999) (disch:=omega) only [go_sem,c1]
  refine W_callh (v:=.int .i64 (makeC F x.dir x.name)) ((h.ob f tFiles (encF c (makeF F x.dir x.name).stamp)).ob c tCache (encC (makeF F x.dir x.name).now F.disk)) rfl ⟨rfl,rfl⟩ rfl (by simp only [go_sem]; exact make_ok hl hF hC hne) ?_
  simp (maxSteps:=999999) (disch:=omega) only [go_sem]
  by_cases e : makeC F x.dir x.name = 0 <;> simp [doC,doF,c0,c1,e,makeF]
 simp (maxSteps:=999999) (disch:=omega) only [go_sem,c1,hF,hC]
 refine W_callp rfl ⟨rfl,rfl⟩ (by simp only [go_sem]; exact eFind0 (a:=F.now) (b:=F.disk) (by simp only [go_sem,hC])) ?_
 simp (maxSteps:=999999) (disch:=omega) only [go_sem]
 rcases slotOf_cases F.now x.dir x.name with e | ⟨s,s4,e,_⟩
 ·simp (maxSteps:=999999) (disch:=omega) only [go_sem,e]
  simp [doC,doF,c0,c1,e,same]
 have s0 : ¬(s : Int) < 0:=by omega
 have i0:=(hw.1 x.dir.toNat s).1
 have i8:=(hw.1 x.dir.toNat s).2
 have n8 : (F.now.ent x.dir.toNat s).ino.toNat < 8:=by omega
 have ni : (((F.now.ent x.dir.toNat s).ino.toNat : Nat) : Int) = (F.now.ent x.dir.toNat s).ino:=by omega
 simp (maxSteps:=999999) (disch:=omega) only [go_sem,e,s0,hF,hC]
 have enter:=fun (cy : Cx) (hy : ∀ n,cy.prot.lets (.obj n) = true) (o : Own)=>enter_ok (cx:=cy) (h:=h.push cx.lvl o) (f:=f) (c:=c) (a:=F.now) (b:=F.disk) (st:=F.stamp) (d:=x.toDir) (s:=x.to) (n:=(F.now.ent x.dir.toNat s).ino.toNat) hy (by simp only [go_sem,hF]) (by simp only [go_sem,hC]) hne n8
 simp only [ni,go_sem] at enter
 by_cases c2 : x.kind = 2
 ·simp (maxSteps:=999999) (disch:=omega) only [go_sem,c2]
  refine W_callh (v:=.int .i64 (enterC F.now F.disk x.toDir x.to)) (h.ob c tCache (encC (enterA F.now F.disk x.toDir x.to (F.now.ent x.dir.toNat s).ino.toNat) F.disk)) rfl ⟨rfl,rfl⟩ rfl (by simp only [go_sem]; exact enter _ (by exact hl) _) ?_
  simp (maxSteps:=999999) (disch:=omega) only [go_sem]
  by_cases e2 : enterC F.now F.disk x.toDir x.to = 0 <;> simp [doC,doF,c0,c1,c2,e,s0,e2,enterA,sameF]
 by_cases c4 : x.kind = 4
 ·simp (maxSteps:=999999) (disch:=omega) only [go_sem,c2,c4]
  refine W_callh (v:=.int .i64 (enterC F.now F.disk x.toDir x.to)) (h.ob c tCache (encC (enterA F.now F.disk x.toDir x.to (F.now.ent x.dir.toNat s).ino.toNat) F.disk)) rfl ⟨rfl,rfl⟩ rfl (by simp only [go_sem]; exact enter _ (by exact hl) _) ?_
  simp (maxSteps:=999999) (disch:=omega) only [go_sem]
  by_cases e2 : enterC F.now F.disk x.toDir x.to = 0
  ·simp (maxSteps:=999999) (disch:=omega) only [go_sem,e2]
   have hw2:=WF_enterA (b:=F.disk) hw (d:=x.toDir) (s:=x.to) n8
   have leave:=fun (cy : Cx) (hy : ∀ n,cy.prot.lets (.obj n) = true) (o : Own)=>leave_ok (cx:=cy) (h:=(h.ob c tCache (encC (enterA F.now F.disk x.toDir x.to (F.now.ent x.dir.toNat s).ino.toNat) F.disk)).push cx.lvl o) (f:=f) (c:=c) (a:=enterA F.now F.disk x.toDir x.to (F.now.ent x.dir.toNat s).ino.toNat) (b:=F.disk) (st:=F.stamp) (d:=x.dir) (s:=s) hy (by simp only [go_sem,hF,look_ob_ne hne]) (by simp only [go_sem,]) hne d0 d3 (Int.natCast_nonneg s) (by omega) (hw2.1 _ _).1 (hw2.1 _ _).2
   simp only [go_sem] at leave
   refine W_callh (v:=.tup .unit) (h.ob c tCache (encC (dropName (enterA F.now F.disk x.toDir x.to (F.now.ent x.dir.toNat s).ino.toNat) x.dir.toNat s) F.disk)) rfl ⟨rfl,rfl⟩ rfl (by simp only [go_sem]; exact leave _ (by exact hl) _) ?_
   simp (maxSteps:=999999) (disch:=omega) only [go_sem]
   simp [doC,doF,c0,c1,c2,c4,e,s0,e2,sameF]
  ·simp (maxSteps:=999999) (disch:=omega) only [go_sem,e2]
   simp [doC,doF,c0,c1,c2,c4,e,s0,e2,enterA,same,ob_self hC]
 by_cases c3 : x.kind = 3
 ·simp (maxSteps:=999999) (disch:=omega) only [go_sem,c2,c4,c3]
  refine W_callh (v:=.tup .unit) (h.ob c tCache (encC (dropName F.now x.dir.toNat s) F.disk)) rfl ⟨rfl,rfl⟩ rfl (by simp only [go_sem]; exact leave_ok (a:=F.now) (b:=F.disk) (st:=F.stamp) hl (by simp only [go_sem,hF]) (by simp only [go_sem,hC]) hne d0 d3 (Int.natCast_nonneg s) (by omega) (by simpa using i0) (by simpa using i8)) ?_
  simp (maxSteps:=999999) (disch:=omega) only [go_sem]
  simp [doC,doF,c0,c1,c2,c3,c4,e,s0,sameF]
 by_cases c5 : x.kind = 5
 ·simp (maxSteps:=999999) (disch:=omega) only [go_sem,c2,c4,c3,c5]
  have put:=fun (cy : Cx) (hy : ∀ n,cy.prot.lets (.obj n) = true) (o : Own)=>put_ok (cx:=cy) (h:=h.push cx.lvl o) (f:=f) (c:=c) (a:=F.now) (b:=F.disk) (st:=F.stamp) (p:=x.p) (t:=x.text) (n:=(F.now.ent x.dir.toNat s).ino.toNat) hy (by simp only [go_sem,hF]) (by simp only [go_sem,hC]) hne hw n8 (hp (.inl c5)).1 (hp (.inl c5)).2
  simp only [ni,go_sem] at put
  refine W_callh (v:=.int .i64 (putC F.now F.disk (F.now.ent x.dir.toNat s).ino.toNat x.p.toNat)) (h.ob c tCache (encC (putA F.now F.disk (F.now.ent x.dir.toNat s).ino.toNat x.p.toNat x.text) F.disk)) rfl ⟨rfl,rfl⟩ rfl (by simp only [go_sem]; exact put _ (by exact hl) _) ?_
  simp (maxSteps:=999999) (disch:=omega) only [go_sem]
  by_cases e2 : putC F.now F.disk (F.now.ent x.dir.toNat s).ino.toNat x.p.toNat = 0
  ·simp [doC,doF,c0,c1,c2,c3,c4,c5,e,s0,e2,sameF]
  ·have : putA F.now F.disk (F.now.ent x.dir.toNat s).ino.toNat x.p.toNat x.text = F.now:=by
    have e3 : (F.now.ino (F.now.ent x.dir.toNat s).ino.toNat).prt x.p.toNat < 0 ∧ freeDat F.now F.disk < 0:=by
     simp only [putC] at e2; split at e2
     ·assumption
     ·exact absurd rfl e2
    simp [putA,e3.1,e3.2]
   simp [doC,doF,c0,c1,c2,c3,c4,c5,e,s0,e2,this,same,ob_self hC]
 have c6 : x.kind = 6:=by omega
 have hp0:=(hp (.inr c6)).1
 have hp2:=(hp (.inr c6)).2
 simp (maxSteps:=999999) (disch:=omega) only [go_sem,c2,c4,c3,c5,c6,hF,hC,stV_ob (hl _),look_ob_ne hne]
 simp [doC,doF,c0,c1,c2,c3,c4,c5,e,s0,sameF]
def readC (a : Img) (d : Int) (s : Str) (p : Int) : Int :=
 if stepFault ⟨6,d,0,p,s,⟨#[]⟩,⟨#[]⟩⟩ ≠ 0 then stepFault ⟨6,d,0,p,s,⟨#[]⟩,⟨#[]⟩⟩ else if slotOf a d s < 0 then 5 else 0
def readX (a : Img) (d : Int) (s : Str) (p : Int) : Int:=(a.ino (a.ent d.toNat (slotOf a d s).toNat).ino.toNat).prt p.toNat
def readB (a : Img) (d : Int) (s : Str) (p : Int) : Bool:=decide (readC a d s p = 0) && !decide (readX a d s p < 0)
def encR (t : Str) (b : Bool) (c : Int) : AV:=.tup (.cons (.str t) (.cons (.bool b) (.cons (.int .i64 c) .unit)))
@[go_sem] theorem fill_step1 (k d p : Int) (s : Str) : fill tStep tStep.zero [(0,.int .i64 k),(1,.int .i64 d),(4,.str s),(3,.int .i64 p)] = some (SStep.enc ⟨k,d,0,p,s,⟨#[]⟩,⟨#[]⟩⟩):=rfl
@[go_sem] theorem encR_mk (t : Str) (b : Bool) (c : Int) : some (AV.tup (.cons (.str t) (.cons (.bool b) (.cons (.int .i64 c) .unit)))) = some (encR t b c):=rfl
end
structure Bd where
 now : Img
 disk : Img
 stamp : Int
 crashes : Int
 files : Int
 counts : Int
 datas : Int
def tailB (s c f n d : Int) : AV:=.cons (.int .i64 s) (.cons (.int .i64 c) (.cons (.int .i64 f) (.cons (.int .i64 n) (.cons (.int .i64 d) .unit))))
def Bd.enc (B : Bd) : AV:=.cons B.now.enc (.cons B.disk.enc (tailB B.stamp B.crashes B.files B.counts B.datas))
@[go_sem] theorem at_B0 (B : Bd) (p : List Nat) : B.enc.at (0 :: p) = B.now.enc.at p:=rfl
@[go_sem] theorem at_B1 (B : Bd) (p : List Nat) : B.enc.at (1 :: p) = B.disk.enc.at p:=rfl
@[go_sem] theorem at_B2 (B : Bd) : B.enc.at [2] = some (.int .i64 B.stamp):=rfl
@[go_sem] theorem at_B3 (B : Bd) : B.enc.at [3] = some (.int .i64 B.crashes):=rfl
@[go_sem] theorem at_B4 (B : Bd) : B.enc.at [4] = some (.int .i64 B.files):=rfl
@[go_sem] theorem at_B5 (B : Bd) : B.enc.at [5] = some (.int .i64 B.counts):=rfl
@[go_sem] theorem at_B6 (B : Bd) : B.enc.at [6] = some (.int .i64 B.datas):=rfl
@[go_sem] theorem put_B0 (B : Bd) (p : List Nat) (x : AV) : B.enc.put (0 :: p) x = (B.now.enc.put p x).map fun y=>.cons y (.cons B.disk.enc (tailB B.stamp B.crashes B.files B.counts B.datas)):=rfl
@[go_sem] theorem put_B1 (B : Bd) (p : List Nat) (x : AV) : B.enc.put (1 :: p) x = (B.disk.enc.put p x).map fun y=>.cons B.now.enc (.cons y (tailB B.stamp B.crashes B.files B.counts B.datas)):=by
 show ((B.disk.enc.put p x).map fun y=>AV.cons y (tailB B.stamp B.crashes B.files B.counts B.datas)).map (fun y=>AV.cons B.now.enc y) = _
 cases B.disk.enc.put p x <;> rfl
@[go_sem] theorem put_B2 (B : Bd) (x : Int) : B.enc.put [2] (.int .i64 x) = some (Bd.enc { B with stamp:=x }):=rfl
@[go_sem] theorem put_B3 (B : Bd) (x : Int) : B.enc.put [3] (.int .i64 x) = some (Bd.enc { B with crashes:=x }):=rfl
@[go_sem] theorem put_B4 (B : Bd) (x : Int) : B.enc.put [4] (.int .i64 x) = some (Bd.enc { B with files:=x }):=rfl
@[go_sem] theorem put_B5 (B : Bd) (x : Int) : B.enc.put [5] (.int .i64 x) = some (Bd.enc { B with counts:=x }):=rfl
@[go_sem] theorem put_B6 (B : Bd) (x : Int) : B.enc.put [6] (.int .i64 x) = some (Bd.enc { B with datas:=x }):=rfl
@[go_sem] theorem Bmk (a b : Img) (s c f n d : Int) : AV.cons a.enc (.cons b.enc (tailB s c f n d)) = Bd.enc ⟨a,b,s,c,f,n,d⟩:=rfl
@[go_sem] theorem field_B0 : tBed.field 0 = some tImage:=rfl
@[go_sem] theorem field_B1 : tBed.field 1 = some tImage:=rfl
@[go_sem] theorem field_B2 : tBed.field 2 = some tI:=rfl
@[go_sem] theorem field_B3 : tBed.field 3 = some tI:=rfl
@[go_sem] theorem field_B4 : tBed.field 4 = some tI:=rfl
@[go_sem] theorem field_B5 : tBed.field 5 = some tI:=rfl
@[go_sem] theorem field_B6 : tBed.field 6 = some tI:=rfl
theorem fits_B' (B : Bd) : tBed.fits B.enc = true:=by
 show (Ty.cons tImage (.cons tImage _)).fits (AV.cons _ (.cons _ _)) = true
 simp only [fits_cons,fits_img',true_and]
 rfl
@[go_sem] theorem fits_B (B : Bd) : (tBed.fits B.enc = true) = True:=eq_true (fits_B' B)
@[go_sem] theorem fg_B (B : Bd) (i : Id) : fg B.enc i = B.enc:=rfl
@[go_sem] theorem leads_B (B : Bd) (i : Id) : B.enc.leads i = false:=rfl
theorem zero_bed : tBed.zero = Bd.enc ⟨.zero,.zero,0,0,0,0,0⟩:=by
 show AV.cons tImage.zero (.cons tImage.zero _) = _
 rw [zero_img]; rfl
@[go_sem] theorem fill_B (a b : Img) : fill tBed tBed.zero [(0,a.enc),(1,b.enc)] = some (Bd.enc ⟨a,b,0,0,0,0,0⟩):=by
 rw [zero_bed]
 simp only [fill]
 show (if tImage.fits a.enc = true then _ else _) = _
 rw [if_pos (fits_img' a),put_B0,put_nil,Option.map_some,Bmk]
 show (if tImage.fits b.enc = true then _ else _) = _
 rw [if_pos (fits_img' b),put_B1,put_nil,Option.map_some,Bmk]
def Bd.fl (B : Bd) : Fl:=⟨B.now,B.disk,B.stamp⟩
section
variable {T : Nat → Option MFun} {cx : Cx} {k : List Item} {kill : List Nat} {r : List MOp} {sl : Slots} {own : Own} {h : HP} {Q : St → Prop}
def WBX (T : Nat → Option MFun) (cx : Cx) (t : Ty) (v : AV) (d : Nat) (r : List MOp) (kill : List Nat) (k : List Item) (sl : Slots) (own : Own) (h : HP) (Q : St → Prop) : Prop :=
 t.fits v = true ∧ W T cx (.ops r kill :: k) ⟨sl.set d (.ptr (.obj h.next) [] t),own,h.nw t v⟩ Q
@[go_sem] theorem WBX_bed {B : Bd} {d : Nat} : WBX T cx tBed B.enc d r kill k sl own h Q = W T cx (.ops r kill :: k) ⟨sl.set d (.ptr (.obj h.next) [] tBed),own,h.nw tBed B.enc⟩ Q:=by
 simp only [WBX,fits_B,true_and]
@[go_sem] theorem WBX_files {c : Nat} {n : Int} {d : Nat} : WBX T cx tFiles (encF c n) d r kill k sl own h Q = W T cx (.ops r kill :: k) ⟨sl.set d (.ptr (.obj h.next) [] tFiles),own,h.nw tFiles (encF c n)⟩ Q:=by
 simp only [WBX,fits_F,true_and]
theorem W_boxX {d : Nat} {t : Ty} {x : Opd} : W T cx (.ops (⟨some d,.box true t x,none⟩ :: r) kill :: k) ⟨sl,own,h⟩ Q = WBX T cx t (St.opd ⟨sl,own,h⟩ x) d r kill k sl own h Q:=by
 rw [W_op rfl,evOp]
 simp only [evK,WBX]
 by_cases h1 : t.fits (St.opd ⟨sl,own,h⟩ x) = true
 ·simp only [h1,true_and,if_true]; rfl
 ·simp only [h1,false_and,Bool.false_eq_true,if_false]; rfl
@[go_sem] theorem W_boxBed {d : Nat} {x : Opd} : W T cx (.ops (⟨some d,.box true tBed x,none⟩ :: r) kill :: k) ⟨sl,own,h⟩ Q = WBX T cx tBed (St.opd ⟨sl,own,h⟩ x) d r kill k sl own h Q:=W_boxX
@[go_sem] theorem W_boxFiles {d : Nat} {x : Opd} : W T cx (.ops (⟨some d,.box true tFiles x,none⟩ :: r) kill :: k) ⟨sl,own,h⟩ Q = WBX T cx tFiles (St.opd ⟨sl,own,h⟩ x) d r kill k sl own h Q:=W_boxX
@[go_sem] theorem mk1_nw (a b : Img) : h.mk1 a b = h.nw tCache (encC a b):=rfl
end
theorem ent_addName (a : Img) (d s : Nat) (name : Str) (n : Nat) (d' s' : Nat) : (addName a d s name n).ent d' s' = if (d = d' ∧ s = s') ∧ d' < 3 ∧ s' < 4 then ⟨name,n,(a.ino n).stamp⟩ else a.ent d' s':=by
 rw [addName,ent_setIno,ent_setEnt]
structure Fr (h h' : HP) (S : List Nat) : Prop where
 stk : h'.stk = h.stk
 arg : h'.arg = h.arg
 next : h.next ≤ h'.next
 same : ∀ n,n < h.next → n ∉ S → h'.obj n = h.obj n
theorem Fr.refl (h : HP) (S : List Nat) : Fr h h S:=⟨rfl,rfl,Nat.le_refl _,fun _ _ _=>rfl⟩
theorem Fr.trans {h h1 h2 : HP} {S : List Nat} (a : Fr h h1 S) (b : Fr h1 h2 S) : Fr h h2 S :=
 ⟨b.stk.trans a.stk,b.arg.trans a.arg,Nat.le_trans a.next b.next,fun n hn hs=>(b.same n (by have:=a.next; omega) hs).trans (a.same n hn hs)⟩
theorem Fr.ob {h : HP} {n : Nat} {t : Ty} {v : AV} {S : List Nat} (hn : n ∈ S) : Fr h (h.ob n t v) S :=
 ⟨rfl,rfl,Nat.le_refl _,fun k _ hs=>obj_ob_ne fun e=>hs (e ▸ hn)⟩
theorem Fr.nw {h : HP} {t : Ty} {v : AV} {S : List Nat} : Fr h (h.nw t v) S :=
 ⟨rfl,rfl,Nat.le_succ _,fun k hk _=>by simp [HP.nw,HP.ob,HP.set]; omega⟩
theorem Fr.mono {h h' : HP} {S S' : List Nat} (a : Fr h h' S) (hs : ∀ n ∈ S,n < h.next → n ∈ S') : Fr h h' S' :=
 ⟨a.stk,a.arg,a.next,fun n hn hn'=>a.same n hn fun e=>hn' (hs n e hn)⟩
theorem Fr.look {h h' : HP} {S : List Nat} (a : Fr h h' S) {n : Nat} {b : Option Blk} (hn : n < h.next) (hs : n ∉ S) (e : h.look (.obj n) = b) : h'.look (.obj n) = b:=by
 rw [← e]; exact a.same n hn hs
theorem look_nn1 {h : HP} {t u : Ty} {v w : AV} : ((h.nw t v).nw u w).look (.obj (h.next + 1)) = some ⟨u,w⟩:=look_nw (h:=h.nw t v)
theorem look_nn0 {h : HP} {t u : Ty} {v w : AV} : ((h.nw t v).nw u w).look (.obj h.next) = some ⟨t,v⟩:=by
 rw [look_nw_ne (by show ¬h.next = h.next + 1; omega),look_nw]
theorem ob_nn1 {h : HP} {t u u' : Ty} {v w w' : AV} : ((h.nw t v).nw u w).ob (h.next + 1) u' w' = (h.nw t v).nw u' w':=nw_ob (h:=h.nw t v)
section
variable {T : Nat → Option MFun} {cx : Cx} {k : List Item} {kill : List Nat} {r : List MOp} {sl : Slots} {own : Own} {h : HP} {Q : St → Prop}
theorem W_callF {S : List Nat} {R : AV → HP → Prop} {prot : Bool} {f : Nat} {args : List Opd} {d : Option Nat} {fn : MFun} (hf : T f = some fn) (hp : fn.params = args.length ∧ fn.nfree = 0)
  (hc : Ok T (St.callCx ⟨sl,own,h⟩ cx prot) fn (St.enter (args.map (St.opd ⟨sl,own,h⟩)) (h.push cx.lvl own)) fun v' h'=>Fr (h.push cx.lvl own) h' S ∧ R v' h')
  (hR : ∀ v h1,R v (HP.push h1 cx.lvl own) → R v h1)
  (hq : ∀ v h1,Fr h h1 S → R v h1 → W T cx (.ops r kill :: k) (St.setd ⟨sl,own,h1⟩ d v) Q) :
  W T cx (.ops (⟨d,.call prot [] f args,none⟩ :: r) kill :: k) ⟨sl,own,h⟩ Q:=by
 refine W_callR (R:=fun v h1=>Fr h h1 S ∧ R v h1) hf hp (hc.mono fun v h' e=>?_) fun v h1 e=>hq v h1 e.1 e.2
 obtain ⟨e1,e2⟩:=e
 have hh : h' = HP.push ⟨h.stk,h'.obj,h'.next,h'.arg⟩ cx.lvl own:=by
  have:=e1.stk
  cases h'
  simp only at this
  subst this
  rfl
 refine ⟨⟨h.stk,h'.obj,h'.next,h'.arg⟩,hh,rfl,⟨rfl,e1.arg,e1.next,e1.same⟩,hR _ _ (hh ▸ e2)⟩
end
def maxSt (m : Img) : Nat → Int
 | 0=>0
 | k + 1=>if maxSt m k < (m.ino k).stamp then (m.ino k).stamp else maxSt m k
@[go_sem] theorem maxV_int (k : IntKind) (a b : Int) : maxV (.int k a) (.int k b) = some (.int k (if a < b then b else a)):=by simp [maxV]
@[go_sem] theorem fits_tInodes (v : Vector Ino 8) : (tInodes.fits (encV Ino.enc v) = true) = True:=fits_inodes v
section
variable {cx : Cx} {h : HP} {m : Img}
theorem SNew_ok : Ok tblE cx Fn.soft_New (St.enter [] h) fun v h'=>v = .ptr (.obj (h.next + 1)) [] tFiles ∧ h' = (h.nw tCache (encC .blank .blank)).nw tFiles (encF h.next 0):=by
 rw [Ok_eq]
 simp (maxSteps:=999999) (disch:=omega) only [go_sem]
 refine W_callh (v:=.ptr (.obj h.next) [] tCache) (h.nw tCache (encC .blank .blank)) rfl ⟨rfl,rfl⟩ rfl (by simp only [go_sem]; exact upE CNew_ok) ?_
 simp (maxSteps:=999999) (disch:=omega) only [go_sem]
theorem SOf_ok (hl : ∀ n,h.next ≤ n → cx.prot.lets (.obj n) = true) (hs : m.small) (hc : check m = 0) : Ok tblE cx Fn.soft_Of (St.enter [m.enc] h) fun v h' =>
  v = .ptr (.obj (h.next + 1)) [] tFiles ∧ h' = (h.nw tCache (encC m m)).nw tFiles (encF h.next (maxSt m 8)):=by
 rw [Ok_eq]
 simp (maxSteps:=999999) (disch:=omega) only [go_sem]
 refine W_callh (v:=.ptr (.obj h.next) [] tCache) (h.nw tCache (encC m m)) rfl ⟨rfl,rfl⟩ rfl (by simp only [go_sem]; exact upE (COf_ok hs hc)) ?_
 simp (maxSteps:=999999) (disch:=omega) only [go_sem]
 refine W_for 8 (fun k=>⟨[(4,.ptr (.obj (h.next + 1)) [] tFiles),(15,encV Ino.enc m.inode),(16,.int .i64 k)],[],(h.nw tCache (encC m m)).nw tFiles (encF h.next (maxSt m k))⟩) (by simp only [go_sem] <;> rfl) fun k hk ih=>?_
 by_cases hlt : k < 8
 ·simp (maxSteps:=999999) (disch:=omega) only [go_sem,hlt,look_nn1,stV_ob (hl (h.next + 1) (by omega)),ob_nn1]
  refine ih _ hlt ?_
  simp only [go_sem,maxSt]
 ·obtain rfl : k = 8:=by omega
  simp (maxSteps:=999999) (disch:=omega) only [go_sem]
end
end Go.Mini
