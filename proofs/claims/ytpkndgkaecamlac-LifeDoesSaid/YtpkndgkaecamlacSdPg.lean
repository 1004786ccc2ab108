/- A part of the proof: what Sd computes, step by step. -/
import Derived.Test.YtpkndgkaecamlacSdPf

set_option linter.unusedSimpArgs false
set_option linter.unusedVariables false
set_option maxHeartbeats 4000000
set_option maxRecDepth 100000
namespace Go.Mini
namespace Fn
@[reducible] def soft_Of.r0 : List MOp:=[⟨some 1,.box false tImage (.s 0),none⟩,⟨some 2,.mov (.c .nilp),none⟩]
@[reducible] def soft_Of.r1 : List MOp:=[⟨some 7,.load false none tImage (.s 1),none⟩,⟨some 8,.call false [] 214 [(.s 7)],none⟩,⟨some 3,.mov (.s 8),none⟩]
@[reducible] def soft_Of.r2 : List MOp:=[⟨some 9,.mov (.s 3),none⟩,⟨some 10,.eq false tP (.s 9) (.c .nilp),none⟩]
@[reducible] def soft_Of.r3 : List MOp:=[⟨some 2,.mov (.c .nilp),none⟩]
@[reducible] def soft_Of.r4 : List MOp:=[⟨some 11,.mov (.s 3),none⟩,⟨some 12,.build tFiles [(0,(.s 11))],none⟩,⟨some 13,.box true tFiles (.s 12),none⟩,⟨some 4,.mov (.s 13),none⟩]
@[reducible] def soft_Of.r5 : List MOp:=[⟨some 14,.fld tImage 0 tInodes (.s 1),none⟩,⟨some 15,.load false none tInodes (.s 14),none⟩,⟨some 16,.mov (.c (.int .i64 0)),none⟩]
@[reducible] def soft_Of.r6 : List MOp:=[⟨some 17,.bin .lss (.s 16) (.c (.int .i64 8)),none⟩]
@[reducible] def soft_Of.r7 : List MOp:=[⟨some 18,.aidx 8 tInode (.s 15) (.s 16),none⟩,⟨some 6,.alloc false tInode,none⟩,⟨none,.store tInode [] (.s 6) (.s 18),none⟩]
@[reducible] def soft_Of.r8 : List MOp:=[⟨some 19,.mov (.s 4),none⟩,⟨some 20,.mov (.s 4),none⟩,⟨some 21,.nilck (.s 20),none⟩,⟨some 22,.fld tFiles 1 tI (.s 21),none⟩,⟨some 23,.load false none tI (.s 22),none⟩,⟨some 24,.fld tInode 1 tI (.s 6),none⟩,⟨some 25,.load false none tI (.s 24),none⟩,⟨some 26,.max (.s 23) (.s 25),none⟩,⟨some 27,.nilck (.s 19),none⟩,⟨some 28,.fld tFiles 1 tI (.s 27),none⟩,⟨none,.store tI [] (.s 28) (.s 26),none⟩]
@[reducible] def soft_Of.r9 : List MOp:=[⟨some 29,.bin .add (.s 16) (.c (.int .i64 1)),none⟩,⟨some 16,.mov (.s 29),none⟩]
@[reducible] def soft_Of.r10 : List MOp:=[⟨some 30,.mov (.s 4),none⟩,⟨some 2,.mov (.s 30),none⟩]
@[reducible] def soft_Of.body : MC:=(.seq (.reg false soft_Of.r0 [0,2]) (.seq (.reg false soft_Of.r1 [7,8]) (.seq (.seq (.reg false soft_Of.r2 [9]) (.cond (.s 10) (.seq (.reg false soft_Of.r3 []) .ret) .skip)) (.seq (.reg false soft_Of.r4 [3,11,12,13]) (.seq (.seq (.reg false soft_Of.r5 [1,14]) (.block 0 (.loop [4,15,16] [13] (.seq (.reg false soft_Of.r6 []) (.seq (.cond (.s 17) .skip (.exit 0)) (.seq (.block 1 (.seq (.reg false soft_Of.r7 [18]) (.reg true soft_Of.r8 [6,19,20,21,22,23,24,25,26,27,28]))) (.reg false soft_Of.r9 [29]))))))) (.seq (.reg false soft_Of.r10 [4,30]) .ret))))))
@[reducible] def soft_Of : MFun:={ params:=1,nfree:=0,res:=[.tmp 2],body:=soft_Of.body }
@[reducible] def r_Bed_Same.r0 : List MOp:=[⟨some 10,.mov (.c (.bool false)),none⟩]
@[reducible] def r_Bed_Same.r1 : List MOp:=[⟨some 13,.mov (.s 0),none⟩,⟨some 14,.nilck (.s 13),none⟩,⟨some 15,.fld tBed 0 tImage (.s 14),none⟩,⟨some 16,.mov (.s 1),none⟩,⟨some 17,.mov (.s 2),none⟩,⟨some 18,.call false [] 20 [(.s 15),(.s 16),(.s 17)],none⟩,⟨some 19,.mov (.s 0),none⟩,⟨some 20,.nilck (.s 19),none⟩,⟨some 21,.fld tBed 0 tImage (.s 20),none⟩,⟨some 22,.mov (.s 3),none⟩,⟨some 23,.mov (.s 4),none⟩,⟨some 24,.call false [] 20 [(.s 21),(.s 22),(.s 23)],none⟩,⟨some 11,.mov (.s 18),none⟩,⟨some 12,.mov (.s 24),none⟩]
@[reducible] def r_Bed_Same.r2 : List MOp:=[⟨some 25,.mov (.s 11),none⟩,⟨some 26,.bin .geq (.s 25) (.c (.int .i64 0)),none⟩,⟨some 27,.mov (.s 26),none⟩,⟨some 28,.mov (.s 12),some (27,true)⟩,⟨some 29,.bin .geq (.s 28) (.c (.int .i64 0)),some (27,true)⟩,⟨some 30,.pick (.s 27) (.s 29) (.c (.bool false)),none⟩,⟨some 31,.mov (.s 30),none⟩,⟨some 32,.mov (.s 0),some (31,true)⟩,⟨some 33,.mov (.s 1),some (31,true)⟩,⟨some 34,.mov (.s 11),some (31,true)⟩,⟨some 35,.nilck (.s 32),some (31,true)⟩,⟨some 36,.fld tBed 0 tImage (.s 35),some (31,true)⟩,⟨some 37,.fld tImage 1 tDirs (.s 36),some (31,true)⟩,⟨some 38,.idx 3 tRow (.s 37) (.s 33),some (31,true)⟩,⟨some 39,.idx 4 tEntry (.s 38) (.s 34),some (31,true)⟩,⟨some 40,.fld tEntry 1 tI (.s 39),some (31,true)⟩,⟨some 41,.load false none tI (.s 40),some (31,true)⟩,⟨some 42,.mov (.s 0),some (31,true)⟩,⟨some 43,.mov (.s 3),some (31,true)⟩,⟨some 44,.mov (.s 12),some (31,true)⟩,⟨some 45,.nilck (.s 42),some (31,true)⟩,⟨some 46,.fld tBed 0 tImage (.s 45),some (31,true)⟩,⟨some 47,.fld tImage 1 tDirs (.s 46),some (31,true)⟩,⟨some 48,.idx 3 tRow (.s 47) (.s 43),some (31,true)⟩,⟨some 49,.idx 4 tEntry (.s 48) (.s 44),some (31,true)⟩,⟨some 50,.fld tEntry 1 tI (.s 49),some (31,true)⟩,⟨some 51,.load false none tI (.s 50),some (31,true)⟩,⟨some 52,.bin .eql (.s 41) (.s 51),some (31,true)⟩,⟨some 53,.pick (.s 31) (.s 52) (.c (.bool false)),none⟩,⟨some 10,.mov (.s 53),none⟩]
@[reducible] def r_Bed_Same.body : MC:=(.seq (.reg false r_Bed_Same.r0 [10]) (.seq (.reg true r_Bed_Same.r1 [2,4,13,14,15,16,17,18,19,20,21,22,23,24]) (.seq (.reg true r_Bed_Same.r2 [0,1,3,11,12,25,26,27,28,29,30,31,32,33,34,35,36,37,38,39,40,41,42,43,44,45,46,47,48,49,50,51,52,53]) .ret)))
@[reducible] def r_Bed_Same : MFun:={ params:=5,nfree:=0,res:=[.tmp 10],body:=r_Bed_Same.body }
@[reducible] def r_Bed_Sure.r0 : List MOp:=[⟨some 6,.mov (.c (.bool false)),none⟩]
@[reducible] def r_Bed_Sure.r1 : List MOp:=[⟨some 8,.mov (.s 0),none⟩,⟨some 9,.nilck (.s 8),none⟩,⟨some 10,.fld tBed 0 tImage (.s 9),none⟩,⟨some 11,.mov (.s 1),none⟩,⟨some 12,.mov (.s 2),none⟩,⟨some 13,.call false [] 20 [(.s 10),(.s 11),(.s 12)],none⟩,⟨some 7,.mov (.s 13),none⟩]
@[reducible] def r_Bed_Sure.r2 : List MOp:=[⟨some 14,.mov (.s 7),none⟩,⟨some 15,.bin .geq (.s 14) (.c (.int .i64 0)),none⟩,⟨some 16,.mov (.s 15),none⟩,⟨some 17,.mov (.s 0),some (16,true)⟩,⟨some 18,.mov (.s 1),some (16,true)⟩,⟨some 19,.mov (.s 7),some (16,true)⟩,⟨some 20,.nilck (.s 17),some (16,true)⟩,⟨some 21,.fld tBed 0 tImage (.s 20),some (16,true)⟩,⟨some 22,.fld tImage 1 tDirs (.s 21),some (16,true)⟩,⟨some 23,.idx 3 tRow (.s 22) (.s 18),some (16,true)⟩,⟨some 24,.idx 4 tEntry (.s 23) (.s 19),some (16,true)⟩,⟨some 25,.load false none tEntry (.s 24),some (16,true)⟩,⟨some 26,.mov (.s 0),some (16,true)⟩,⟨some 27,.mov (.s 1),some (16,true)⟩,⟨some 28,.mov (.s 7),some (16,true)⟩,⟨some 29,.nilck (.s 26),some (16,true)⟩,⟨some 30,.fld tBed 1 tImage (.s 29),some (16,true)⟩,⟨some 31,.fld tImage 1 tDirs (.s 30),some (16,true)⟩,⟨some 32,.idx 3 tRow (.s 31) (.s 27),some (16,true)⟩,⟨some 33,.idx 4 tEntry (.s 32) (.s 28),some (16,true)⟩,⟨some 34,.load false none tEntry (.s 33),some (16,true)⟩,⟨some 35,.eq false tEntry (.s 25) (.s 34),some (16,true)⟩,⟨some 36,.pick (.s 16) (.s 35) (.c (.bool false)),none⟩,⟨some 6,.mov (.s 36),none⟩]
@[reducible] def r_Bed_Sure.body : MC:=(.seq (.reg false r_Bed_Sure.r0 [6]) (.seq (.reg false r_Bed_Sure.r1 [2,8,9,10,11,12,13]) (.seq (.reg true r_Bed_Sure.r2 [0,1,7,14,15,16,17,18,19,20,21,22,23,24,25,26,27,28,29,30,31,32,33,34,35,36]) .ret)))
@[reducible] def r_Bed_Sure : MFun:={ params:=3,nfree:=0,res:=[.tmp 6],body:=r_Bed_Sure.body }
@[reducible] def r_Bed_Read.r0 : List MOp:=[⟨some 8,.mov (.c (.str ⟨#[]⟩)),none⟩,⟨some 9,.mov (.c (.bool false)),none⟩,⟨some 10,.mov (.c (.int .i64 0)),none⟩]
@[reducible] def r_Bed_Read.r1 : List MOp:=[⟨some 14,.mov (.s 1),none⟩,⟨some 15,.mov (.s 2),none⟩,⟨some 16,.mov (.s 3),none⟩,⟨some 17,.build tStep [(0,(.c (.int .i64 6))),(1,(.s 14)),(4,(.s 15)),(3,(.s 16))],none⟩,⟨some 18,.call false [] 217 [(.s 17)],none⟩,⟨some 11,.mov (.s 18),none⟩]
@[reducible] def r_Bed_Read.r2 : List MOp:=[⟨some 19,.mov (.s 11),none⟩,⟨some 20,.bin .neq (.s 19) (.c (.int .i64 0)),none⟩]
@[reducible] def r_Bed_Read.r3 : List MOp:=[⟨some 21,.mov (.s 11),none⟩,⟨some 8,.mov (.c (.str ⟨#[]⟩)),none⟩,⟨some 9,.mov (.c (.bool false)),none⟩,⟨some 10,.mov (.s 21),none⟩]
@[reducible] def r_Bed_Read.r4 : List MOp:=[⟨some 22,.mov (.s 0),none⟩,⟨some 23,.nilck (.s 22),none⟩,⟨some 24,.fld tBed 0 tImage (.s 23),none⟩,⟨some 25,.mov (.s 1),none⟩,⟨some 26,.mov (.s 2),none⟩,⟨some 27,.call false [] 20 [(.s 24),(.s 25),(.s 26)],none⟩,⟨some 12,.mov (.s 27),none⟩]
@[reducible] def r_Bed_Read.r5 : List MOp:=[⟨some 28,.mov (.s 12),none⟩,⟨some 29,.bin .lss (.s 28) (.c (.int .i64 0)),none⟩]
@[reducible] def r_Bed_Read.r6 : List MOp:=[⟨some 8,.mov (.c (.str ⟨#[]⟩)),none⟩,⟨some 9,.mov (.c (.bool false)),none⟩,⟨some 10,.mov (.c (.int .i64 5)),none⟩]
@[reducible] def r_Bed_Read.r7 : List MOp:=[⟨some 30,.mov (.s 0),none⟩,⟨some 31,.mov (.s 0),none⟩,⟨some 32,.mov (.s 1),none⟩,⟨some 33,.mov (.s 12),none⟩,⟨some 34,.nilck (.s 31),none⟩,⟨some 35,.fld tBed 0 tImage (.s 34),none⟩,⟨some 36,.fld tImage 1 tDirs (.s 35),none⟩,⟨some 37,.idx 3 tRow (.s 36) (.s 32),none⟩,⟨some 38,.idx 4 tEntry (.s 37) (.s 33),none⟩,⟨some 39,.fld tEntry 1 tI (.s 38),none⟩,⟨some 40,.load false none tI (.s 39),none⟩,⟨some 41,.mov (.s 3),none⟩,⟨some 42,.nilck (.s 30),none⟩,⟨some 43,.fld tBed 0 tImage (.s 42),none⟩,⟨some 44,.fld tImage 0 tInodes (.s 43),none⟩,⟨some 45,.idx 8 tInode (.s 44) (.s 40),none⟩,⟨some 46,.fld tInode 3 tParts (.s 45),none⟩,⟨some 47,.idx 2 tI (.s 46) (.s 41),none⟩,⟨some 48,.load false none tI (.s 47),none⟩,⟨some 13,.mov (.s 48),none⟩]
@[reducible] def r_Bed_Read.r8 : List MOp:=[⟨some 49,.mov (.s 13),none⟩,⟨some 50,.bin .lss (.s 49) (.c (.int .i64 0)),none⟩]
@[reducible] def r_Bed_Read.r9 : List MOp:=[⟨some 8,.mov (.c (.str ⟨#[]⟩)),none⟩,⟨some 9,.mov (.c (.bool false)),none⟩,⟨some 10,.mov (.c (.int .i64 0)),none⟩]
@[reducible] def r_Bed_Read.r10 : List MOp:=[⟨some 51,.mov (.s 0),none⟩,⟨some 52,.mov (.s 13),none⟩,⟨some 53,.nilck (.s 51),none⟩,⟨some 54,.fld tBed 0 tImage (.s 53),none⟩,⟨some 55,.fld tImage 2 tDatas (.s 54),none⟩,⟨some 56,.idx 9 tData (.s 55) (.s 52),none⟩,⟨some 57,.fld tData 1 tS (.s 56),none⟩,⟨some 58,.load false none tS (.s 57),none⟩,⟨some 8,.mov (.s 58),none⟩,⟨some 9,.mov (.c (.bool true)),none⟩,⟨some 10,.mov (.c (.int .i64 0)),none⟩]
@[reducible] def r_Bed_Read.body : MC:=(.seq (.reg false r_Bed_Read.r0 [8,9,10]) (.seq (.seq (.reg false r_Bed_Read.r1 [14,15,16,17,18]) (.seq (.reg false r_Bed_Read.r2 [19]) (.cond (.s 20) (.seq (.reg false r_Bed_Read.r3 [11,21]) .ret) .skip))) (.seq (.reg false r_Bed_Read.r4 [2,22,23,24,25,26,27]) (.seq (.seq (.reg false r_Bed_Read.r5 [28]) (.cond (.s 29) (.seq (.reg false r_Bed_Read.r6 []) .ret) .skip)) (.seq (.reg true r_Bed_Read.r7 [1,3,12,30,31,32,33,34,35,36,37,38,39,40,41,42,43,44,45,46,47,48]) (.seq (.seq (.reg false r_Bed_Read.r8 [49]) (.cond (.s 50) (.seq (.reg false r_Bed_Read.r9 []) .ret) .skip)) (.seq (.reg false r_Bed_Read.r10 [0,13,51,52,53,54,55,56,57,58]) .ret)))))))
@[reducible] def r_Bed_Read : MFun:={ params:=4,nfree:=0,res:=[.tmp 8,.tmp 9,.tmp 10],body:=r_Bed_Read.body }
@[reducible] def w_SoftDoes.r0 : List MOp:=[⟨some 3,.box false tImage (.s 0),none⟩,⟨some 5,.box false tStep (.s 2),none⟩,⟨some 6,.mov (.c (.bool false)),none⟩]
@[reducible] def w_SoftDoes.r1 : List MOp:=[⟨some 19,.call false [] 277 [],none⟩,⟨some 20,.un .not (.s 19),none⟩]
@[reducible] def w_SoftDoes.r2 : List MOp:=[⟨some 6,.mov (.c (.bool false)),none⟩]
@[reducible] def w_SoftDoes.r3 : List MOp:=[⟨some 21,.load false none tImage (.s 3),none⟩,⟨some 22,.call false [] 10 [(.s 21)],none⟩,⟨some 23,.mov (.s 22),none⟩,⟨some 24,.mov (.s 1),some (23,false)⟩,⟨some 25,.call false [] 228 [(.s 24)],some (23,false)⟩,⟨some 26,.pick (.s 23) (.c (.bool true)) (.s 25),none⟩,⟨some 27,.mov (.s 26),none⟩,⟨some 28,.load false none tStep (.s 5),some (27,false)⟩,⟨some 29,.call false [] 229 [(.s 28)],some (27,false)⟩,⟨some 30,.pick (.s 27) (.c (.bool true)) (.s 29),none⟩]
@[reducible] def w_SoftDoes.r4 : List MOp:=[⟨some 6,.mov (.c (.bool true)),none⟩]
@[reducible] def w_SoftDoes.r5 : List MOp:=[⟨some 31,.call false [] 276 [],none⟩,⟨some 32,.call false [] 279 [],none⟩,⟨some 7,.mov (.s 31),none⟩,⟨some 8,.mov (.s 32),none⟩]
@[reducible] def w_SoftDoes.r6 : List MOp:=[⟨some 33,.load false none tImage (.s 3),none⟩,⟨some 34,.call false [] 278 [(.s 33)],none⟩,⟨some 9,.mov (.s 34),none⟩]
@[reducible] def w_SoftDoes.r7 : List MOp:=[⟨some 35,.mov (.s 9),none⟩,⟨some 36,.eq true tP (.s 35) (.c .nilp),none⟩]
@[reducible] def w_SoftDoes.r8 : List MOp:=[⟨some 37,.mov (.s 9),none⟩,⟨some 7,.mov (.s 37),none⟩]
@[reducible] def w_SoftDoes.r9 : List MOp:=[⟨some 38,.mov (.s 8),none⟩,⟨some 39,.mov (.s 8),none⟩,⟨some 40,.load false none tImage (.s 3),none⟩,⟨some 41,.load false none tImage (.s 3),none⟩,⟨some 42,.nilck (.s 38),none⟩,⟨some 43,.fld tBed 0 tImage (.s 42),none⟩,⟨none,.store tImage [] (.s 43) (.s 40),none⟩,⟨some 44,.nilck (.s 39),none⟩,⟨some 45,.fld tBed 1 tImage (.s 44),none⟩,⟨none,.store tImage [] (.s 45) (.s 41),none⟩]
@[reducible] def w_SoftDoes.r10 : List MOp:=[⟨some 10,.mov (.c (.int .i64 0)),none⟩]
@[reducible] def w_SoftDoes.r11 : List MOp:=[⟨some 46,.mov (.s 10),none⟩,⟨some 47,.bin .lss (.s 46) (.c (.int .i64 8)),none⟩]
@[reducible] def w_SoftDoes.r12 : List MOp:=[⟨some 48,.mov (.s 10),none⟩,⟨some 49,.bin .add (.s 48) (.c (.int .i64 1)),none⟩,⟨some 10,.mov (.s 49),none⟩]
@[reducible] def w_SoftDoes.r13 : List MOp:=[⟨some 50,.mov (.s 8),none⟩,⟨some 51,.mov (.s 8),none⟩,⟨some 52,.nilck (.s 51),none⟩,⟨some 53,.fld tBed 2 tI (.s 52),none⟩,⟨some 54,.load false none tI (.s 53),none⟩,⟨some 55,.mov (.s 10),none⟩,⟨some 56,.fld tImage 0 tInodes (.s 3),none⟩,⟨some 57,.idx 8 tInode (.s 56) (.s 55),none⟩,⟨some 58,.fld tInode 1 tI (.s 57),none⟩,⟨some 59,.load false none tI (.s 58),none⟩,⟨some 60,.max (.s 54) (.s 59),none⟩,⟨some 61,.nilck (.s 50),none⟩,⟨some 62,.fld tBed 2 tI (.s 61),none⟩,⟨none,.store tI [] (.s 62) (.s 60),none⟩]
@[reducible] def w_SoftDoes.r14 : List MOp:=[⟨some 63,.call false [] 22 [(.s 3)],none⟩,⟨some 64,.bin .neq (.s 63) (.c (.int .i64 0)),none⟩]
@[reducible] def w_SoftDoes.r15 : List MOp:=[⟨some 6,.mov (.c (.bool false)),none⟩]
@[reducible] def w_SoftDoes.r16 : List MOp:=[⟨some 65,.mov (.s 8),none⟩,⟨some 66,.nilck (.s 65),none⟩,⟨some 67,.fld tBed 2 tI (.s 66),none⟩,⟨some 68,.load false none tI (.s 67),none⟩,⟨some 69,.bin .gtr (.s 68) (.c (.int .i64 1099511627776)),none⟩]
@[reducible] def w_SoftDoes.r17 : List MOp:=[⟨some 6,.mov (.c (.bool true)),none⟩]
@[reducible] def w_SoftDoes.r18 : List MOp:=[⟨some 70,.call false [] 22 [(.s 3)],none⟩,⟨some 71,.bin .eql (.s 70) (.c (.int .i64 0)),none⟩]
@[reducible] def w_SoftDoes.r19 : List MOp:=[⟨some 6,.mov (.c (.bool false)),none⟩]
@[reducible] def w_SoftDoes.r20 : List MOp:=[⟨some 72,.mov (.s 8),none⟩,⟨some 73,.nilck (.s 72),none⟩,⟨some 74,.fld tBed 0 tImage (.s 73),none⟩,⟨some 75,.call false [] 24 [(.s 74)],none⟩,⟨some 76,.un .not (.s 75),none⟩]
@[reducible] def w_SoftDoes.r21 : List MOp:=[⟨some 6,.mov (.c (.bool true)),none⟩]
@[reducible] def w_SoftDoes.r22 : List MOp:=[⟨some 11,.mov (.c (.int .i64 0)),none⟩]
@[reducible] def w_SoftDoes.r23 : List MOp:=[⟨some 77,.mov (.s 11),none⟩,⟨some 78,.mov (.s 1),none⟩,⟨some 79,.len false (.s 78),none⟩,⟨some 80,.bin .lss (.s 77) (.s 79),none⟩]
@[reducible] def w_SoftDoes.r24 : List MOp:=[⟨some 81,.mov (.s 11),none⟩,⟨some 82,.bin .add (.s 81) (.c (.int .i64 1)),none⟩,⟨some 11,.mov (.s 82),none⟩]
@[reducible] def w_SoftDoes.r25 : List MOp:=[⟨some 83,.mov (.s 7),none⟩,⟨some 84,.mov (.s 8),none⟩,⟨some 85,.mov (.s 1),none⟩,⟨some 86,.mov (.s 11),none⟩,⟨some 87,.sidx false tStep (.s 85) (.s 86),none⟩,⟨some 88,.load false none tStep (.s 87),none⟩,⟨some 89,.call false [] 274 [(.s 83),(.s 84),(.s 88)],none⟩,⟨some 90,.un .not (.s 89),none⟩,⟨some 91,.mov (.s 90),none⟩,⟨some 92,.mov (.s 7),some (91,false)⟩,⟨some 93,.nilck (.s 92),some (91,false)⟩,⟨some 94,.fld tFiles 0 tP (.s 93),some (91,false)⟩,⟨some 95,.load false none tP (.s 94),some (91,false)⟩,⟨some 96,.nilck (.s 95),some (91,false)⟩,⟨some 97,.fld tCache 0 tImage (.s 96),some (91,false)⟩,⟨some 98,.load false none tImage (.s 97),some (91,false)⟩,⟨some 99,.mov (.s 8),some (91,false)⟩,⟨some 100,.nilck (.s 99),some (91,false)⟩,⟨some 101,.fld tBed 0 tImage (.s 100),some (91,false)⟩,⟨some 102,.load false none tImage (.s 101),some (91,false)⟩,⟨some 103,.eq true tImage (.s 98) (.s 102),some (91,false)⟩,⟨some 104,.pick (.s 91) (.c (.bool true)) (.s 103),none⟩,⟨some 105,.mov (.s 104),none⟩,⟨some 106,.mov (.s 7),some (105,false)⟩,⟨some 107,.nilck (.s 106),some (105,false)⟩,⟨some 108,.fld tFiles 0 tP (.s 107),some (105,false)⟩,⟨some 109,.load false none tP (.s 108),some (105,false)⟩,⟨some 110,.call true [] 203 [(.s 109)],some (105,false)⟩,⟨some 111,.mov (.s 8),some (105,false)⟩,⟨some 112,.nilck (.s 111),some (105,false)⟩,⟨some 113,.fld tBed 1 tImage (.s 112),some (105,false)⟩,⟨some 114,.load false none tImage (.s 113),some (105,false)⟩,⟨some 115,.eq true tImage (.s 110) (.s 114),some (105,false)⟩,⟨some 116,.pick (.s 105) (.c (.bool true)) (.s 115),none⟩]
@[reducible] def w_SoftDoes.r26 : List MOp:=[⟨some 6,.mov (.c (.bool false)),none⟩]
@[reducible] def w_SoftDoes.r27 : List MOp:=[⟨some 12,.mov (.c (.int .i64 (-1))),none⟩]
@[reducible] def w_SoftDoes.r28 : List MOp:=[⟨some 117,.mov (.s 12),none⟩,⟨some 118,.bin .leq (.s 117) (.c (.int .i64 3)),none⟩]
@[reducible] def w_SoftDoes.r29 : List MOp:=[⟨some 119,.mov (.s 12),none⟩,⟨some 120,.bin .add (.s 119) (.c (.int .i64 1)),none⟩,⟨some 12,.mov (.s 120),none⟩]
@[reducible] def w_SoftDoes.r30 : List MOp:=[⟨some 121,.mov (.s 7),none⟩,⟨some 122,.mov (.s 12),none⟩,⟨some 123,.call false [] 272 [(.s 121),(.s 122)],none⟩,⟨some 124,.mov (.s 8),none⟩,⟨some 125,.mov (.s 12),none⟩,⟨some 126,.call false [] 273 [(.s 124),(.s 125)],none⟩,⟨some 127,.call false [] 224 [(.s 123),(.s 126)],none⟩,⟨some 128,.un .not (.s 127),none⟩]
@[reducible] def w_SoftDoes.r31 : List MOp:=[⟨some 6,.mov (.c (.bool false)),none⟩]
@[reducible] def w_SoftDoes.r32 : List MOp:=[⟨some 130,.mov (.s 7),none⟩,⟨some 131,.fld tStep 1 tI (.s 5),none⟩,⟨some 132,.load false none tI (.s 131),none⟩,⟨some 133,.fld tStep 4 tS (.s 5),none⟩,⟨some 134,.load false none tS (.s 133),none⟩,⟨some 135,.fld tStep 3 tI (.s 5),none⟩,⟨some 136,.load false none tI (.s 135),none⟩,⟨some 137,.call false [] 271 [(.s 130),(.s 132),(.s 134),(.s 136)],none⟩,⟨some 129,.mov (.s 137),none⟩,⟨some 138,.ext (.s 129) 0,none⟩,⟨some 139,.ext (.s 129) 1,none⟩,⟨some 140,.ext (.s 129) 2,none⟩,⟨some 13,.mov (.s 138),none⟩,⟨some 14,.mov (.s 139),none⟩,⟨some 15,.mov (.s 140),none⟩]
@[reducible] def w_SoftDoes.r33 : List MOp:=[⟨some 142,.mov (.s 8),none⟩,⟨some 143,.fld tStep 1 tI (.s 5),none⟩,⟨some 144,.load false none tI (.s 143),none⟩,⟨some 145,.fld tStep 4 tS (.s 5),none⟩,⟨some 146,.load false none tS (.s 145),none⟩,⟨some 147,.fld tStep 3 tI (.s 5),none⟩,⟨some 148,.load false none tI (.s 147),none⟩,⟨some 149,.call false [] 312 [(.s 142),(.s 144),(.s 146),(.s 148)],none⟩,⟨some 141,.mov (.s 149),none⟩,⟨some 150,.ext (.s 141) 0,none⟩,⟨some 151,.ext (.s 141) 1,none⟩,⟨some 152,.ext (.s 141) 2,none⟩,⟨some 16,.mov (.s 150),none⟩,⟨some 17,.mov (.s 151),none⟩,⟨some 18,.mov (.s 152),none⟩]
@[reducible] def w_SoftDoes.r34 : List MOp:=[⟨some 153,.mov (.s 13),none⟩,⟨some 154,.mov (.s 16),none⟩,⟨some 155,.bin .eql (.s 153) (.s 154),none⟩,⟨some 156,.mov (.s 155),none⟩,⟨some 157,.mov (.s 14),some (156,true)⟩,⟨some 158,.mov (.s 17),some (156,true)⟩,⟨some 159,.eq false tB (.s 157) (.s 158),some (156,true)⟩,⟨some 160,.pick (.s 156) (.s 159) (.c (.bool false)),none⟩,⟨some 161,.mov (.s 160),none⟩,⟨some 162,.mov (.s 15),some (161,true)⟩,⟨some 163,.mov (.s 18),some (161,true)⟩,⟨some 164,.bin .eql (.s 162) (.s 163),some (161,true)⟩,⟨some 165,.pick (.s 161) (.s 164) (.c (.bool false)),none⟩,⟨some 166,.mov (.s 165),none⟩,⟨some 167,.mov (.s 7),some (166,true)⟩,⟨some 168,.fld tStep 1 tI (.s 5),some (166,true)⟩,⟨some 169,.load false none tI (.s 168),some (166,true)⟩,⟨some 170,.fld tStep 4 tS (.s 5),some (166,true)⟩,⟨some 171,.load false none tS (.s 170),some (166,true)⟩,⟨some 172,.fld tStep 2 tI (.s 5),some (166,true)⟩,⟨some 173,.load false none tI (.s 172),some (166,true)⟩,⟨some 174,.fld tStep 5 tS (.s 5),some (166,true)⟩,⟨some 175,.load false none tS (.s 174),some (166,true)⟩,⟨some 176,.call true [] 266 [(.s 167),(.s 169),(.s 171),(.s 173),(.s 175)],some (166,true)⟩,⟨some 177,.mov (.s 8),some (166,true)⟩,⟨some 178,.fld tStep 1 tI (.s 5),some (166,true)⟩,⟨some 179,.load false none tI (.s 178),some (166,true)⟩,⟨some 180,.fld tStep 4 tS (.s 5),some (166,true)⟩,⟨some 181,.load false none tS (.s 180),some (166,true)⟩,⟨some 182,.fld tStep 2 tI (.s 5),some (166,true)⟩,⟨some 183,.load false none tI (.s 182),some (166,true)⟩,⟨some 184,.fld tStep 5 tS (.s 5),some (166,true)⟩,⟨some 185,.load false none tS (.s 184),some (166,true)⟩,⟨some 186,.call false [] 310 [(.s 177),(.s 179),(.s 181),(.s 183),(.s 185)],some (166,true)⟩,⟨some 187,.eq false tB (.s 176) (.s 186),some (166,true)⟩,⟨some 188,.pick (.s 166) (.s 187) (.c (.bool false)),none⟩,⟨some 189,.mov (.s 188),none⟩,⟨some 190,.mov (.s 7),some (189,true)⟩,⟨some 191,.fld tStep 1 tI (.s 5),some (189,true)⟩,⟨some 192,.load false none tI (.s 191),some (189,true)⟩,⟨some 193,.fld tStep 4 tS (.s 5),some (189,true)⟩,⟨some 194,.load false none tS (.s 193),some (189,true)⟩,⟨some 195,.call true [] 268 [(.s 190),(.s 192),(.s 194)],some (189,true)⟩,⟨some 196,.mov (.s 8),some (189,true)⟩,⟨some 197,.fld tStep 1 tI (.s 5),some (189,true)⟩,⟨some 198,.load false none tI (.s 197),some (189,true)⟩,⟨some 199,.fld tStep 4 tS (.s 5),some (189,true)⟩,⟨some 200,.load false none tS (.s 199),some (189,true)⟩,⟨some 201,.call false [] 311 [(.s 196),(.s 198),(.s 200)],some (189,true)⟩,⟨some 202,.eq false tB (.s 195) (.s 201),some (189,true)⟩,⟨some 203,.pick (.s 189) (.s 202) (.c (.bool false)),none⟩,⟨some 6,.mov (.s 203),none⟩]
@[reducible] def w_SoftDoes.body : MC:=(.seq (.reg false w_SoftDoes.r0 [0,2,6]) (.seq (.seq (.reg false w_SoftDoes.r1 [19]) (.cond (.s 20) (.seq (.reg false w_SoftDoes.r2 []) .ret) .skip)) (.seq (.seq (.reg false w_SoftDoes.r3 [21,22,23,24,25,26,27,28,29]) (.cond (.s 30) (.seq (.reg false w_SoftDoes.r4 []) .ret) .skip)) (.seq (.reg false w_SoftDoes.r5 [31,32]) (.seq (.seq (.reg false w_SoftDoes.r6 [33,34]) (.seq (.reg false w_SoftDoes.r7 [35]) (.cond (.s 36) (.seq (.reg false w_SoftDoes.r8 [9,37]) (.seq (.reg false w_SoftDoes.r9 [38,39,40,41,42,43,44,45]) (.seq (.seq (.reg false w_SoftDoes.r10 []) (.block 0 (.loop [1,3,5,7,8,10] [3,5] (.seq (.seq (.reg false w_SoftDoes.r11 [46]) (.cond (.s 47) .skip (.exit 0))) (.seq (.block 1 (.reg true w_SoftDoes.r13 [50,51,52,53,54,55,56,57,58,59,60,61,62])) (.reg false w_SoftDoes.r12 [48,49])))))) (.seq (.seq (.reg false w_SoftDoes.r14 [3,63]) (.cond (.s 64) (.seq (.reg false w_SoftDoes.r15 []) .ret) .skip)) (.seq (.reg false w_SoftDoes.r16 [65,66,67,68]) (.cond (.s 69) (.seq (.reg false w_SoftDoes.r17 []) .ret) .skip)))))) (.seq (.reg false w_SoftDoes.r18 [3,70]) (.cond (.s 71) (.seq (.reg false w_SoftDoes.r19 []) .ret) .skip))))) (.seq (.seq (.reg false w_SoftDoes.r20 [72,73,74,75]) (.cond (.s 76) (.seq (.reg false w_SoftDoes.r21 []) .ret) .skip)) (.seq (.seq (.reg false w_SoftDoes.r22 []) (.block 2 (.loop [1,5,7,8,11] [5] (.seq (.seq (.reg false w_SoftDoes.r23 [77,78,79]) (.cond (.s 80) .skip (.exit 2))) (.seq (.block 3 (.seq (.reg true w_SoftDoes.r25 [83,84,85,86,87,88,89,90,91,92,93,94,95,96,97,98,99,100,101,102,103,104,105,106,107,108,109,110,111,112,113,114,115]) (.cond (.s 116) (.seq (.reg false w_SoftDoes.r26 []) .ret) .skip))) (.reg false w_SoftDoes.r24 [81,82])))))) (.seq (.seq (.reg false w_SoftDoes.r27 []) (.block 4 (.loop [5,7,8,12] [5] (.seq (.seq (.reg false w_SoftDoes.r28 [117]) (.cond (.s 118) .skip (.exit 4))) (.seq (.block 5 (.seq (.reg false w_SoftDoes.r30 [121,122,123,124,125,126,127]) (.cond (.s 128) (.seq (.reg false w_SoftDoes.r31 []) .ret) .skip))) (.reg false w_SoftDoes.r29 [119,120])))))) (.seq (.reg false w_SoftDoes.r32 [129,130,131,132,133,134,135,136,137,138,139,140]) (.seq (.reg false w_SoftDoes.r33 [141,142,143,144,145,146,147,148,149,150,151,152]) (.seq (.reg true w_SoftDoes.r34 [5,7,8,13,14,15,16,17,18,153,154,155,156,157,158,159,160,161,162,163,164,165,166,167,168,169,170,171,172,173,174,175,176,177,178,179,180,181,182,183,184,185,186,187,188,189,190,191,192,193,194,195,196,197,198,199,200,201,202,203]) .ret)))))))))))
@[reducible] def w_SoftDoes : MFun:={ params:=3,nfree:=0,res:=[.tmp 6],body:=w_SoftDoes.body }
end Fn
def tblF0 : List (Option MFun):=[none,none,none,none,none,none,none,none,none,none,none,none,none,none,none,none,none,none,none,none,none,none,none,none,none,none,none,none,none,none,none,none,none,none,none,none,none,none,none,none,none,none,none,none,none,none,none,none,none,none,none,none,none,none,none,none,none,none,none,none,none,none,none,none,none,none,none,none,none,none,none,none,none,none,none,none,none,none,some Fn.soft_Of,none,none,none,none,none,none,none,none,none,none,none,none,none,none,none,none,none,none,none,none,none,none,none,none,none,none,none,none,none,none,none,some Fn.r_Bed_Same,some Fn.r_Bed_Sure,some Fn.r_Bed_Read,some Fn.w_SoftDoes,none,none]
namespace Fn
end Fn
def tblG0 : List (Option MFun):=[none,none,none,none,none,none,none,none,none,none,none,none,none,none,none,none,none,none,none,none,none,none,none,none,none,none,none,none,none,none,none,none,none,none,none,none,none,none,none,none,none,none,none,none,none,none,none,none,none,none,none,none,none,none,none,none,none,none,none,none,none,none,none,none,none,none,none,none,none,none,none,none,none,none,none,none,none,none,none,none,none,none,none,none,none,none,none,none,none,none,none,none,none,none,none,none,none,none,none,none,none,none,none,none,none,none,none,none,none,none,none,none,none,none,none,none,none,none,none,none,none,none,none,none,none,none,none,none,none,none,none,none,none,none,none]
def mergeT : List (Option MFun) → List (Option MFun) → List (Option MFun)
 | [],c=>c
 | a,[]=>a
 | some x :: a,_ :: c=>some x :: mergeT a c
 | none :: a,b :: c=>b :: mergeT a c
theorem mergeT_ext : ∀ (a c : List (Option MFun)) (i : Nat) (fn : MFun),a.getD i none = some fn → (mergeT a c).getD i none = some fn
 | [],c,i,fn,h=>by simp at h
 | x :: a,[],i,fn,h=>by cases x <;> exact h
 | some x :: a,y :: c,0,fn,h=>h
 | none :: a,y :: c,0,fn,h=>by simp at h
 | some x :: a,y :: c,i + 1,fn,h=>mergeT_ext a c i fn h
 | none :: a,y :: c,i + 1,fn,h=>mergeT_ext a c i fn h
def tblEL : List (Option MFun):=mergeT (mergeT (mergeT (mergeT tblBL (List.replicate 200 none ++ tblDL0)) (List.replicate 200 none ++ tblEL0)) (List.replicate 200 none ++ tblF0)) (List.replicate 200 none ++ tblG0)
def tblE (f : Nat) : Option MFun:=tblEL.getD f none
theorem tbl_E (i : Nat) (fn : MFun) (h : tblB i = some fn) : tblE i = some fn:=mergeT_ext _ _ _ _ (mergeT_ext _ _ _ _ (mergeT_ext _ _ _ _ (mergeT_ext _ _ _ _ h)))
theorem upE {cx : Cx} {fn : MFun} {e : St} {R : AV → HP → Prop} (h : Ok tblB cx fn e R) : Ok tblE cx fn e R:=by
 obtain ⟨n,s',v,hr,hv,hR⟩:=h
 exact ⟨n,s',v,run_ext tbl_E hr,hv,hR⟩
def HP.ob (h : HP) (n : Nat) (t : Ty) (v : AV) : HP:=h.set (.obj n) ⟨t,v⟩
def HP.nw (h : HP) (t : Ty) (v : AV) : HP:={ h.ob h.next t v with next:=h.next + 1 }
section
variable {h : HP} {n m l : Nat} {t u : Ty} {v w : AV} {o : Own}
theorem cs_ob (a b : Img) : h.cs n a b = h.ob n tCache (encC a b):=rfl
@[go_sem] theorem look_ob : (h.ob n t v).look (.obj n) = some ⟨t,v⟩:=by simp [HP.ob,HP.set,HP.look]
theorem look_ob_ne (e : ¬m = n) : (h.ob n t v).look (.obj m) = h.look (.obj m):=by simp [HP.ob,HP.set,HP.look,e]
theorem obj_ob_ne (e : ¬m = n) : (h.ob n t v).obj m = h.obj m:=by simp [HP.ob,HP.set,e]
@[go_sem] theorem look_ob_arg : (h.ob n t v).look (.arg m) = h.look (.arg m):=rfl
@[go_sem] theorem ob_ob : (h.ob n t v).ob n u w = h.ob n u w:=by
 simp only [HP.ob,HP.set]; congr 1; funext k; by_cases e : k = n <;> simp [e]
@[go_sem] theorem push_ob : (h.push l o).ob n t v = (h.ob n t v).push l o:=rfl
@[go_sem] theorem push_nw : (h.push l o).nw t v = (h.nw t v).push l o:=rfl
@[go_sem] theorem next_ob : (h.ob n t v).next = h.next:=rfl
@[go_sem] theorem next_nw : (h.nw t v).next = h.next + 1:=rfl
@[go_sem] theorem next_push : (h.push l o).next = h.next:=rfl
@[go_sem] theorem look_nw : (h.nw t v).look (.obj h.next) = some ⟨t,v⟩:=by simp [HP.nw,HP.ob,HP.set,HP.look]
theorem look_nw_ne (e : ¬m = h.next) : (h.nw t v).look (.obj m) = h.look (.obj m):=by simp [HP.nw,HP.ob,HP.set,HP.look,e]
theorem look_nw_lt (e : m < h.next) : (h.nw t v).look (.obj m) = h.look (.obj m):=look_nw_ne (by omega)
@[go_sem] theorem push_looko : (h.push l o).look (.obj n) = h.look (.obj n):=rfl
@[go_sem] theorem push_look_arg : (h.push l o).look (.arg n) = h.look (.arg n):=rfl
@[go_sem] theorem nw_ob : (h.nw t v).ob h.next u w = h.nw u w:=by
 simp only [HP.nw,HP.ob,HP.set]; congr 1; funext k; by_cases e : k = h.next <;> simp [e]
end
section
variable {T : Nat → Option MFun} {cx : Cx} {k : List Item} {kill : List Nat} {r : List MOp} {sl : Slots} {own : Own} {h : HP} {Q : St → Prop}
@[go_sem] theorem fg_ob (n l t : Nat) (p : List Nat) (u : Ty) : fg (.ptr (.obj n) p u) (.stk l t) = .ptr (.obj n) p u:=fg_ptr (below_obj n l) p u
@[go_sem] theorem leads_ob (n l t : Nat) (p : List Nat) (u : Ty) : (AV.ptr (.obj n) p u).leads (.stk l t) = false:=leads_ptr (below_obj n l) p u
@[go_sem] theorem fg_obs (n l t : Nat) (a b : Nat) : fg (.sl (.obj n) a b) (.stk l t) = .sl (.obj n) a b:=fg_sl (below_obj n l) a b
@[go_sem] theorem fg_args (n l t : Nat) (a b : Nat) : fg (.sl (.arg n) a b) (.stk l t) = .sl (.arg n) a b:=fg_sl (below_arg n l) a b
@[go_sem] theorem fg_slz (i : Id) : fg .slz i = .slz:=rfl
@[go_sem] theorem leads_slz (i : Id) : AV.slz.leads i = false:=rfl
@[go_sem] theorem leads_nilsl (i : Id) : AV.nilsl.leads i = false:=rfl
@[go_sem] theorem leads_obs (n l t : Nat) (a b : Nat) : (AV.sl (.obj n) a b).leads (.stk l t) = false:=by simp [AV.leads,AV.isAgg,AV.names]
@[go_sem] theorem leads_args (n l t : Nat) (a b : Nat) : (AV.sl (.arg n) a b).leads (.stk l t) = false:=by simp [AV.leads,AV.isAgg,AV.names]
@[go_sem] theorem rd_look (n : Nat) (p : List Nat) : St.rd cx ⟨sl,own,h⟩ (.obj n) p = (h.look (.obj n)).bind fun b=>b.val.at p:=rfl
@[go_sem] theorem rd_look_arg (n : Nat) (p : List Nat) : St.rd cx ⟨sl,own,h⟩ (.arg n) p = (h.look (.arg n)).bind fun b=>b.val.at p:=rfl
@[go_sem] theorem look_obj (n : Nat) : St.look cx ⟨sl,own,h⟩ (.obj n) = h.look (.obj n):=rfl
@[go_sem] theorem look_arg (n : Nat) : St.look cx ⟨sl,own,h⟩ (.arg n) = h.look (.arg n):=rfl
@[go_sem] theorem apart_ob (n m : Nat) (p : List Nat) (u : Ty) : AV.apart (.obj n) (.ptr (.obj m) p u) = !decide (m = n):=by
 simp only [AV.apart]; congr 1; rw [Bool.eq_iff_iff]; simp
@[go_sem] theorem apart_obstk (n l t : Nat) (p : List Nat) (u : Ty) : AV.apart (.obj n) (.ptr (.stk l t) p u) = true:=by simp [AV.apart]
@[go_sem] theorem apart_stkob (n l t : Nat) (p : List Nat) (u : Ty) : AV.apart (.stk l t) (.ptr (.obj n) p u) = true:=apart_ptr (below_obj n l) p u
theorem stV_ob {n : Nat} {t : Ty} {p : List Nat} {v : AV} (hl : cx.prot.lets (.obj n) = true) : stV cx t (.ptr (.obj n) p t) v ⟨sl,own,h⟩ =
  if t.fits v = true then (h.look (.obj n)).bind fun b=>(b.val.put p v).map fun u=>⟨sl,own,h.ob n b.ty u⟩ else none:=by
 simp only [stV,true_and,St.look,Id.own]
 split
 ·cases h.look (.obj n) with
  | none=>rfl
  | some b =>
   simp only [Option.bind]
   cases b.val.put p v with
   | none=>rfl
   | some u=>simp only [St.write,Id.own,hl,if_true,Option.map]; rfl
 ·rfl
theorem WG_dec {p : Prop} [Decidable p] {c : Bool} {d : Option Nat} {o : MK} {s : St} (h1 : p → WG T cx (.bool true) c d o r kill k s Q) (h2 : ¬p → WG T cx (.bool false) c d o r kill k s Q) : WG T cx (.bool (decide p)) c d o r kill k s Q:=by
 by_cases hp : p
 ·rw [decide_eq_true hp]; exact h1 hp
 ·rw [decide_eq_false hp]; exact h2 hp
theorem WC_dec {p : Prop} [Decidable p] {t e : MC} {s : St} (h1 : p → WC T cx (.bool true) t e k s Q) (h2 : ¬p → WC T cx (.bool false) t e k s Q) : WC T cx (.bool (decide p)) t e k s Q:=by
 by_cases hp : p
 ·rw [decide_eq_true hp]; exact h1 hp
 ·rw [decide_eq_false hp]; exact h2 hp
theorem WG_ndec {p : Prop} [Decidable p] {c : Bool} {d : Option Nat} {o : MK} {s : St} (h1 : p → WG T cx (.bool false) c d o r kill k s Q) (h2 : ¬p → WG T cx (.bool true) c d o r kill k s Q) : WG T cx (.bool (!decide p)) c d o r kill k s Q:=by
 by_cases hp : p
 ·rw [decide_eq_true hp]; exact h1 hp
 ·rw [decide_eq_false hp]; exact h2 hp
theorem WC_ndec {p : Prop} [Decidable p] {t e : MC} {s : St} (h1 : p → WC T cx (.bool false) t e k s Q) (h2 : ¬p → WC T cx (.bool true) t e k s Q) : WC T cx (.bool (!decide p)) t e k s Q:=by
 by_cases hp : p
 ·rw [decide_eq_true hp]; exact h1 hp
 ·rw [decide_eq_false hp]; exact h2 hp
theorem WG_bool {b : Bool} {c : Bool} {d : Option Nat} {o : MK} {s : St} (h1 : b = true → WG T cx (.bool true) c d o r kill k s Q) (h2 : b = false → WG T cx (.bool false) c d o r kill k s Q) : WG T cx (.bool b) c d o r kill k s Q:=by
 cases b
 ·exact h2 rfl
 ·exact h1 rfl
theorem WC_bool {b : Bool} {t e : MC} {s : St} (h1 : b = true → WC T cx (.bool true) t e k s Q) (h2 : b = false → WC T cx (.bool false) t e k s Q) : WC T cx (.bool b) t e k s Q:=by
 cases b
 ·exact h2 rfl
 ·exact h1 rfl
theorem W_callR {prot : Bool} {f : Nat} {args : List Opd} {d : Option Nat} {fn : MFun} {R : AV → HP → Prop} (hf : T f = some fn) (hp : fn.params = args.length ∧ fn.nfree = 0)
  (hc : Ok T (St.callCx ⟨sl,own,h⟩ cx prot) fn (St.enter (args.map (St.opd ⟨sl,own,h⟩)) (h.push cx.lvl own)) fun v' h'=>∃ h1 : HP,h' = h1.push cx.lvl own ∧ h1.stk = h.stk ∧ R v' h1)
  (hq : ∀ v h1,R v h1 → W T cx (.ops r kill :: k) (St.setd ⟨sl,own,h1⟩ d v) Q) :
  W T cx (.ops (⟨d,.call prot [] f args,none⟩ :: r) kill :: k) ⟨sl,own,h⟩ Q:=by
 refine W_callr hf hp hc ?_
 rintro v h' ⟨h1,rfl,hs,hR⟩
 have : St.pop ⟨sl,own,h⟩ cx.lvl [] (h1.push cx.lvl own) = ⟨sl,own,h1⟩:=by
  simp only [St.pop,HP.pop,HP.push,Own.unveil,if_true]
  congr 1
  cases h1
  simp only at hs
  subst hs
  simp only [HP.mk.injEq,and_true]
  funext l
  by_cases hl : l = cx.lvl <;> simp [hl]
 rw [this]; exact hq v h1 hR
theorem W_forE {α : Type} {keep ko : List Nat} {b : MC} {s : St} (N : Nat) (S : Nat → α → St) (P : Nat → α → Prop) (a0 : α) (h0 : s.keep keep ko = S 0 a0) (p0 : P 0 a0)
  (step : ∀ j a,j ≤ N → P j a → (∀ s' a',j < N → s'.keep keep ko = S (j + 1) a' → P (j + 1) a' → W T cx (.inLoop keep ko b :: k) s' Q) → W T cx (.code b :: .inLoop keep ko b :: k) (S j a) Q) :
  W T cx (.code (.loop keep ko b) :: k) s Q :=
 W_loop N (fun j s=>∃ a,s = S j a ∧ P j a) ⟨a0,h0,p0⟩ fun j s hj hs ih=>by
  obtain ⟨a,rfl,hp⟩:=hs
  exact step j a hj hp fun s' a' hlt he hp'=>ih s' hlt ⟨a',he,hp'⟩
@[go_sem] theorem pickV_sel (c : Bool) (x y : AV) : pickV (.bool c) x y = some (if c = true then x else y):=by cases c <;> rfl
end
structure SStep where
 kind : Int
 dir : Int
 toDir : Int
 p : Int
 name : Str
 to : Str
 text : Str
def SStep.enc (x : SStep) : AV:=.cons (.int .i64 x.kind) (.cons (.int .i64 x.dir) (.cons (.int .i64 x.toDir) (.cons (.int .i64 x.p) (.cons (.str x.name) (.cons (.str x.to) (.cons (.str x.text) .unit))))))
@[go_sem] theorem at_step0 (x : SStep) : x.enc.at [0] = some (.int .i64 x.kind):=rfl
@[go_sem] theorem at_step1 (x : SStep) : x.enc.at [1] = some (.int .i64 x.dir):=rfl
@[go_sem] theorem at_step2 (x : SStep) : x.enc.at [2] = some (.int .i64 x.toDir):=rfl
@[go_sem] theorem at_step3 (x : SStep) : x.enc.at [3] = some (.int .i64 x.p):=rfl
@[go_sem] theorem at_step4 (x : SStep) : x.enc.at [4] = some (.str x.name):=rfl
@[go_sem] theorem at_step5 (x : SStep) : x.enc.at [5] = some (.str x.to):=rfl
@[go_sem] theorem at_step6 (x : SStep) : x.enc.at [6] = some (.str x.text):=rfl
@[go_sem] theorem field_step0 : tStep.field 0 = some tI:=rfl
@[go_sem] theorem field_step1 : tStep.field 1 = some tI:=rfl
@[go_sem] theorem field_step2 : tStep.field 2 = some tI:=rfl
@[go_sem] theorem field_step3 : tStep.field 3 = some tI:=rfl
@[go_sem] theorem field_step4 : tStep.field 4 = some tS:=rfl
@[go_sem] theorem field_step5 : tStep.field 5 = some tS:=rfl
@[go_sem] theorem field_step6 : tStep.field 6 = some tS:=rfl
@[go_sem] theorem fits_step (x : SStep) : (tStep.fits x.enc = true) = True:=eq_true rfl
@[go_sem] theorem fg_step (x : SStep) (i : Id) : fg x.enc i = x.enc:=rfl
@[go_sem] theorem leads_step (x : SStep) (i : Id) : x.enc.leads i = false:=rfl
@[go_sem] theorem isAgg_step (x : SStep) : x.enc.isAgg = true:=rfl
@[go_sem] theorem safe_step (x : SStep) : x.enc.safe = true:=rfl
def dirFaultN (d : Int) (s : Str) : Int:=if d < 0 ∨ 3 ≤ d then 1 else if isName s = true then 0 else 2
def stepFault (x : SStep) : Int :=
 if x.kind < 1 ∨ 6 < x.kind then 7 else
 if dirFaultN x.dir x.name ≠ 0 then dirFaultN x.dir x.name else
 if x.kind = 2 ∨ x.kind = 4 then dirFaultN x.toDir x.to else
 if (x.kind = 5 ∨ x.kind = 6) ∧ (x.p < 0 ∨ 2 ≤ x.p) then 1 else
 if x.kind = 5 ∧ 8 < x.text.size then 3 else 0
section
variable {cx : Cx} {h : HP}
theorem NameX_ok {s : Str} (hs : s.size ≤ 9223372036854775807) : Ok tblE cx Fn.image_Name (St.enter [.str s] h) fun v h'=>v = .bool (isName s) ∧ h' = h:=by
 rw [Ok_eq]
 simp (maxSteps:=999999) (disch:=omega) only [go_sem]
 refine W_forP s.size (fun j=>⟨[(0,.str s),(5,.int .i64 s.size),(6,.int .i64 j)],[],h⟩) (fun j=>∀ i,i < j → badByte s i = false) (by simp only [go_sem] <;> rfl) (fun i hi=>by omega) fun j hj hp ih=>?_
 by_cases hlt : j < s.size
 ·simp (maxSteps:=999999) (disch:=omega) only [go_sem,hlt]
  by_cases h1 : byteAt s j < 97
  ·simp (maxSteps:=999999) (disch:=omega) only [go_sem,hlt]
   have : anyN s.size (badByte s) = true:=anyN_at hlt (by simp [badByte,h1])
   simp [isName,this]
  ·by_cases h2 : 122 < byteAt s j
   ·simp (maxSteps:=999999) (disch:=omega) only [go_sem,hlt]
    have : anyN s.size (badByte s) = true:=anyN_at hlt (by simp [badByte,h2])
    simp [isName,this]
   ·simp (maxSteps:=999999) (disch:=omega) only [go_sem,hlt]
    refine ih _ hlt (step_all hp (by simp [badByte,h1,h2])) ?_
    simp only [go_sem]
 ·obtain rfl : j = s.size:=by omega
  have hn : anyN s.size (badByte s) = false:=anyN_false.2 hp
  simp (maxSteps:=999999) (disch:=omega) only [go_sem]
  by_cases h1 : s = ⟨#[]⟩
  ·simp (maxSteps:=999999) (disch:=omega) only [go_sem,h1]; simp [isName]
  ·by_cases h2 : s.size ≤ 6
   ·simp (maxSteps:=999999) (disch:=omega) only [go_sem,h1]
    simp [isName,hn,h1,h2]
   ·simp (maxSteps:=999999) (disch:=omega) only [go_sem,h1]
    simp [isName,hn,h1,h2]
theorem IsNameX_ok {s : Str} (hs : s.size ≤ 9223372036854775807) : Ok tblE cx Fn.r_IsName (St.enter [.str s] h) fun v h'=>v = .bool (isName s) ∧ h' = h:=by
 rw [Ok_eq]
 simp (maxSteps:=999999) (disch:=omega) only [go_sem]
 by_cases h1 : s.size = 0
 ·have e:=size_zero.2 h1
  simp (maxSteps:=999999) (disch:=omega) only [go_sem]
  simp [isName,e]
 have e : ¬s = ⟨#[]⟩:=fun e=>h1 (size_zero.1 e)
 by_cases h2 : s.size ≤ 6
 ·simp (maxSteps:=999999) (disch:=omega) only [go_sem]
  refine W_forP s.size (fun j=>⟨[(0,.str s),(3,.int .i64 j)],[],h⟩) (fun j=>∀ i,i < j → badByte s i = false) (by simp only [go_sem] <;> rfl) (fun i hi=>by omega) fun j hj hp ih=>?_
  by_cases hlt : j < s.size
  ·simp (maxSteps:=999999) (disch:=omega) only [go_sem,hlt]
   by_cases h1 : byteAt s j < 97
   ·simp (maxSteps:=999999) (disch:=omega) only [go_sem,hlt]
    have : anyN s.size (badByte s) = true:=anyN_at hlt (by simp [badByte,h1])
    simp [isName,this]
   ·by_cases h2 : 122 < byteAt s j
    ·simp (maxSteps:=999999) (disch:=omega) only [go_sem,hlt]
     have : anyN s.size (badByte s) = true:=anyN_at hlt (by simp [badByte,h2])
     simp [isName,this]
    ·simp (maxSteps:=999999) (disch:=omega) only [go_sem,hlt]
     refine ih _ hlt (step_all hp (by simp [badByte,h1,h2])) ?_
     simp only [go_sem]
  ·obtain rfl : j = s.size:=by omega
   have hn : anyN s.size (badByte s) = false:=anyN_false.2 hp
   simp (maxSteps:=999999) (disch:=omega) only [go_sem]
   simp [isName,hn,e,h2]
 ·simp (maxSteps:=999999) (disch:=omega) only [go_sem]
  simp [isName,h2]
theorem icheck_ok {d : Int} {s : Str} (hs : s.size ≤ 9223372036854775807) : Ok tblE cx Fn.ideal_check (St.enter [.int .i64 d,.str s] h) fun v h'=>v = .int .i64 (dirFaultN d s) ∧ h' = h:=by
 rw [Ok_eq]
 by_cases c1 : d < 0
 ·simp (maxSteps:=999999) (disch:=omega) only [go_sem,c1]; simp [dirFaultN,c1]
 ·by_cases c2 : 3 ≤ d
  ·simp (maxSteps:=999999) (disch:=omega) only [go_sem,c1,c2]; simp [dirFaultN,c2]
  ·simp (maxSteps:=999999) (disch:=omega) only [go_sem,c1,c2]
   refine W_callp rfl ⟨rfl,rfl⟩ (by simp only [go_sem]; exact NameX_ok hs) ?_
   cases c3 : isName s <;> simp (maxSteps:=999999) (disch:=omega) only [go_sem,c3] <;> simp [dirFaultN,c1,c2,c3]
theorem ICheck_ok {x : SStep} (h1 : x.name.size ≤ 9223372036854775807) (h2 : x.to.size ≤ 9223372036854775807) (h3 : x.text.size ≤ 9223372036854775807) : Ok tblE cx Fn.ideal_Check (St.enter [x.enc] h) fun v h'=>v = .int .i64 (stepFault x) ∧ h' = h:=by
 rw [Ok_eq]
 simp (maxSteps:=999999) (disch:=omega) only [go_sem]
 by_cases c1 : x.kind < 1
 ·simp (maxSteps:=999999) (disch:=omega) only [go_sem,c1]; simp [stepFault,c1]
 by_cases c2 : 6 < x.kind
 ·simp (maxSteps:=999999) (disch:=omega) only [go_sem,c1,c2]; simp [stepFault,c2]
 simp (maxSteps:=999999) (disch:=omega) only [go_sem,c1,c2]
 refine W_callp rfl ⟨rfl,rfl⟩ (by simp only [go_sem]; exact icheck_ok h1) ?_
 simp (maxSteps:=999999) (disch:=omega) only [go_sem]
 by_cases c3 : dirFaultN x.dir x.name = 0
 ·simp (maxSteps:=999999) (disch:=omega) only [go_sem,c3]
  by_cases c4 : x.kind = 2
  ·simp (maxSteps:=999999) (disch:=omega) only [go_sem,c4]
   refine W_callp rfl ⟨rfl,rfl⟩ (by simp only [go_sem]; exact icheck_ok h2) ?_
   simp (maxSteps:=999999) (disch:=omega) only [go_sem]; simp [stepFault,c3,c4]
  by_cases c5 : x.kind = 4
  ·simp (maxSteps:=999999) (disch:=omega) only [go_sem,c4,c5]
   refine W_callp rfl ⟨rfl,rfl⟩ (by simp only [go_sem]; exact icheck_ok h2) ?_
   simp (maxSteps:=999999) (disch:=omega) only [go_sem]; simp [stepFault,c3,c5]
  simp (maxSteps:=999999) (disch:=omega) only [go_sem,c4,c5]
  (repeat' (first | simp (maxSteps:=999999) (disch:=first | assumption | omega) only [go_sem] | refine WG_ndec (fun _=>?_) (fun _=>?_) | refine WC_ndec (fun _=>?_) (fun _=>?_) | refine WG_dec (fun _=>?_) (fun _=>?_) | refine WC_dec (fun _=>?_) (fun _=>?_) | refine WG_bool (fun _=>?_) (fun _=>?_) | refine WC_bool (fun _=>?_) (fun _=>?_))) <;> simp_all [stepFault] <;> omega
 ·simp (maxSteps:=999999) (disch:=omega) only [go_sem,c3]
  simp [stepFault,c1,c2,c3]
theorem StepFault_ok {x : SStep} (h1 : x.name.size ≤ 9223372036854775807) (h2 : x.to.size ≤ 9223372036854775807) (h3 : x.text.size ≤ 9223372036854775807) : Ok tblE cx Fn.r_StepFault (St.enter [x.enc] h) fun v h'=>v = .int .i64 (stepFault x) ∧ h' = h:=by
 rw [Ok_eq]
 (repeat' (first | simp (maxSteps:=999999) (disch:=first | assumption | omega) only [go_sem] | (refine W_callp rfl ⟨rfl,rfl⟩ (by simp only [go_sem]; exact IsNameX_ok h1) ?_) | (refine W_callp rfl ⟨rfl,rfl⟩ (by simp only [go_sem]; exact IsNameX_ok h2) ?_) | refine WG_ndec (fun _=>?_) (fun _=>?_) | refine WC_ndec (fun _=>?_) (fun _=>?_) | refine WG_dec (fun _=>?_) (fun _=>?_) | refine WC_dec (fun _=>?_) (fun _=>?_) | refine WG_bool (fun _=>?_) (fun _=>?_) | refine WC_bool (fun _=>?_) (fun _=>?_))) <;> simp_all [stepFault,dirFaultN] <;> omega
end
def freeIno (a b : Img) : Int:=findN 8 fun k=>!(a.ino k).live && decide (refs b k = 0)
def freeDat (a b : Img) : Int:=findN 9 fun x=>!held a x && !held b x
def room (a b : Img) (d : Int) (s : Str) : Int:=if 0 ≤ slotOf b d s then -1 else freeSlot a b d
def addName (a : Img) (d s : Nat) (name : Str) (n : Nat) : Img :=
 (a.setEnt d s ⟨name,n,(a.ino n).stamp⟩).setIno n { a.ino n with links:=IntKind.i64.wrap ((a.ino n).links + 1) }
def dropName (a : Img) (d s : Nat) : Img :=
 let n:=(a.ent d s).ino.toNat
 let i : Ino:={ a.ino n with links:=IntKind.i64.wrap ((a.ino n).links - 1) }
 if i.links = 0 then (a.setEnt d s .zero).setIno n .none else (a.setEnt d s .zero).setIno n i
def enterC (a b : Img) (d : Int) (name : Str) : Int:=if 0 ≤ slotOf a d name then 4 else if room a b d name < 0 then 6 else 0
def enterA (a b : Img) (d : Int) (name : Str) (n : Nat) : Img:=if enterC a b d name = 0 then addName a d.toNat (room a b d name).toNat name n else a
def newIno (st : Int) : Ino:=⟨true,st,0,Ino.none.part⟩
structure Fl where
 now : Img
 disk : Img
 stamp : Int
def makeC (F : Fl) (d : Int) (name : Str) : Int:=if 0 ≤ slotOf F.now d name then 4 else if freeIno F.now F.disk < 0 ∨ room F.now F.disk d name < 0 then 6 else 0
def makeF (F : Fl) (d : Int) (name : Str) : Fl:=if makeC F d name = 0 then
  ⟨addName (F.now.setIno (freeIno F.now F.disk).toNat (newIno (IntKind.i64.wrap (F.stamp + 1)))) d.toNat (room F.now F.disk d name).toNat name (freeIno F.now F.disk).toNat,F.disk,IntKind.i64.wrap (F.stamp + 1)⟩ else F
def putC (a b : Img) (n p : Nat) : Int:=if (a.ino n).prt p < 0 ∧ freeDat a b < 0 then 6 else 0
def putA (a b : Img) (n p : Nat) (t : Str) : Img:=if (a.ino n).prt p < 0 then
  (if freeDat a b < 0 then a else (a.setIno n ((a.ino n).setPrt p (freeDat a b))).setDat (freeDat a b).toNat ⟨(a.ino n).stamp,t⟩)
 else a.setDat ((a.ino n).prt p).toNat ⟨(a.ino n).stamp,t⟩
def doC (F : Fl) (x : SStep) : Int :=
 if stepFault x ≠ 0 then stepFault x else
 if x.kind = 1 then makeC F x.dir x.name else
 if slotOf F.now x.dir x.name < 0 then 5 else
 if x.kind = 2 ∨ x.kind = 4 then enterC F.now F.disk x.toDir x.to else
 if x.kind = 5 then putC F.now F.disk (F.now.ent x.dir.toNat (slotOf F.now x.dir x.name).toNat).ino.toNat x.p.toNat else 0
def doF (F : Fl) (x : SStep) : Fl :=
 if doC F x ≠ 0 then F else
 if x.kind = 1 then makeF F x.dir x.name else
 let s:=(slotOf F.now x.dir x.name).toNat
 let n:=(F.now.ent x.dir.toNat s).ino.toNat
 if x.kind = 2 then { F with now:=enterA F.now F.disk x.toDir x.to n } else
 if x.kind = 4 then { F with now:=dropName (enterA F.now F.disk x.toDir x.to n) x.dir.toNat s } else
 if x.kind = 3 then { F with now:=dropName F.now x.dir.toNat s } else
 if x.kind = 5 then { F with now:=putA F.now F.disk n x.p.toNat x.text } else
 { F with now:=F.now.setIno n ((F.now.ino n).setPrt x.p.toNat (-1)) }
def WF (a : Img) : Prop:=(∀ d s,0 ≤ (a.ent d s).ino ∧ (a.ent d s).ino < 8) ∧ ∀ n p,-1 ≤ (a.ino n).prt p ∧ (a.ino n).prt p < 9
theorem stepFault_zero {x : SStep} (h : stepFault x = 0) : (1 ≤ x.kind ∧ x.kind ≤ 6) ∧ (0 ≤ x.dir ∧ x.dir < 3) ∧ isName x.name = true ∧ (x.kind = 2 ∨ x.kind = 4 → (0 ≤ x.toDir ∧ x.toDir < 3) ∧ isName x.to = true) ∧ (x.kind = 5 ∨ x.kind = 6 → 0 ≤ x.p ∧ x.p < 2) ∧ (x.kind = 5 → x.text.size ≤ 8):=by
 unfold stepFault at h
 split at h
 ·omega
 split at h
 ·exact absurd h (by assumption)
 rename_i h1 h2
 have h2 : dirFaultN x.dir x.name = 0:=by simpa using h2
 have key : ∀ d s,dirFaultN d s = 0 → (0 ≤ d ∧ d < 3) ∧ isName s = true:=by
  intro d s hd
  unfold dirFaultN at hd
  split at hd
  ·omega
  ·split at hd
   ·rename_i h3 h4; exact ⟨by omega,h4⟩
   ·omega
 obtain ⟨k1,k2⟩:=key _ _ h2
 refine ⟨by omega,k1,k2,fun hk=>?_,fun hk=>?_,fun hk=>?_⟩
 ·rw [if_pos hk] at h; exact key _ _ h
 ·rw [if_neg (by omega)] at h
  split at h
  ·omega
  ·rename_i h3; omega
 ·rw [if_neg (by omega)] at h
  split at h
  ·omega
  ·split at h
   ·omega
   ·rename_i h3 h4; omega
theorem slotOf_cases (a : Img) (d : Int) (s : Str) : slotOf a d s = -1 ∨ ∃ k : Nat,k < 4 ∧ slotOf a d s = k ∧ 0 ≤ d ∧ d < 3 ∧ (a.ent d.toNat k).name = s ∧ ¬s = ⟨#[]⟩:=by
 unfold slotOf
 split
 ·exact .inl rfl
 ·rename_i hn
  rcases findN_lt (f:=fun k=>decide ((a.ent d.toNat k).name = s)) (n:=4) with e | ⟨j,h1,e,h2,_⟩
  ·exact .inl e
  ·exact .inr ⟨j,h1,e,by omega,by omega,by simpa using h2,fun e'=>hn (by simp [e'])⟩
theorem freeSlot_cases (a b : Img) (d : Int) : freeSlot a b d = -1 ∨ ∃ k : Nat,k < 4 ∧ freeSlot a b d = k ∧ 0 ≤ d ∧ d < 3 ∧ (a.ent d.toNat k).name = ⟨#[]⟩ ∧ (b.ent d.toNat k).name = ⟨#[]⟩:=by
 unfold freeSlot
 split
 ·exact .inl rfl
 ·rename_i hn
  rcases findN_lt (f:=fun s=>decide ((a.ent d.toNat s).name = ⟨#[]⟩) && decide ((b.ent d.toNat s).name = ⟨#[]⟩)) (n:=4) with e | ⟨j,h1,e,h2,_⟩
  ·exact .inl e
  ·simp at h2
   exact .inr ⟨j,h1,e,by omega,by omega,h2.1,h2.2⟩
theorem room_cases (a b : Img) (d : Int) (s : Str) : room a b d s = -1 ∨ ∃ k : Nat,k < 4 ∧ room a b d s = k ∧ 0 ≤ d ∧ d < 3 ∧ (a.ent d.toNat k).name = ⟨#[]⟩ ∧ (b.ent d.toNat k).name = ⟨#[]⟩ ∧ slotOf b d s < 0:=by
 unfold room
 split
 ·exact .inl rfl
 ·rename_i hn
  rcases freeSlot_cases a b d with e | ⟨k,h1,e,h2,h3,h4,h5⟩
  ·exact .inl e
  ·exact .inr ⟨k,h1,e,h2,h3,h4,h5,by omega⟩
theorem freeIno_cases (a b : Img) : freeIno a b = -1 ∨ ∃ k : Nat,k < 8 ∧ freeIno a b = k ∧ (a.ino k).live = false ∧ refs b k = 0:=by
 rcases findN_lt (f:=fun k=>!(a.ino k).live && decide (refs b k = 0)) (n:=8) with e | ⟨j,h1,e,h2,_⟩
 ·exact .inl e
 ·simp at h2; exact .inr ⟨j,h1,e,h2.1,h2.2⟩
theorem freeDat_cases (a b : Img) : freeDat a b = -1 ∨ ∃ k : Nat,k < 9 ∧ freeDat a b = k ∧ held a k = false ∧ held b k = false:=by
 rcases findN_lt (f:=fun x=>!held a x && !held b x) (n:=9) with e | ⟨j,h1,e,h2,_⟩
 ·exact .inl e
 ·simp at h2; exact .inr ⟨j,h1,e,h2.1,h2.2⟩
def encF (c : Nat) (st : Int) : AV:=.cons (.ptr (.obj c) [] tCache) (.cons (.int .i64 st) .unit)
@[go_sem] theorem at_F0 (c : Nat) (st : Int) : (encF c st).at [0] = some (.ptr (.obj c) [] tCache):=rfl
@[go_sem] theorem at_F1 (c : Nat) (st : Int) : (encF c st).at [1] = some (.int .i64 st):=rfl
@[go_sem] theorem put_F1 (c : Nat) (st n : Int) : (encF c st).put [1] (.int .i64 n) = some (encF c n):=rfl
@[go_sem] theorem field_F0 : tFiles.field 0 = some tP:=rfl
@[go_sem] theorem field_F1 : tFiles.field 1 = some tI:=rfl
@[go_sem] theorem fits_F (c : Nat) (st : Int) : (tFiles.fits (encF c st) = true) = True:=eq_true rfl
@[go_sem] theorem fitO_ptr (n : Nat) (p : List Nat) (t : Ty) : fitO tP (some (.ptr (.obj n) p t)) = some (.ptr (.obj n) p t):=rfl
@[go_sem] theorem fill_F (c : Nat) : fill tFiles tFiles.zero [(0,.ptr (.obj c) [] tCache)] = some (encF c 0):=rfl
@[go_sem] theorem fits_boxF (c : Nat) (st : Int) (i : Id) : fg (encF c st) i = encF c st:=rfl
@[go_sem] theorem fits_tP (n : Nat) (p : List Nat) (t : Ty) : (tP.fits (.ptr (.obj n) p t) = true) = True:=eq_true rfl
@[go_sem] theorem put_C0 (a b : Img) (p : List Nat) (x : AV) : (encC a b).put (0 :: p) x = (a.enc.put p x).map fun y=>.cons y (.cons b.enc .unit):=rfl
@[go_sem] theorem put_C1 (a b : Img) (p : List Nat) (x : AV) : (encC a b).put (1 :: p) x = (b.enc.put p x).map fun y=>.cons a.enc (.cons y .unit):=by
 show ((b.enc.put p x).map fun y=>AV.cons y .unit).map (fun y=>AV.cons a.enc y) = _
 cases b.enc.put p x <;> rfl
@[go_sem] theorem Cmk (a b : Img) : AV.cons a.enc (.cons b.enc .unit) = encC a b:=rfl
@[go_sem] theorem results_nil {cx : Cx} {s : St} : results cx s [] = some (.tup .unit):=rfl
theorem ob_self {h : HP} {n : Nat} {t : Ty} {v : AV} (e : h.look (.obj n) = some ⟨t,v⟩) : h.ob n t v = h:=by
 cases h
 simp only [HP.look] at e
 simp only [HP.ob,HP.set,HP.mk.injEq,and_true,true_and]
 funext k
 by_cases hk : k = n <;> simp [hk,e]
section
variable {cx : Cx} {h : HP} {c : Nat} {a b : Img}
theorem eDisk (hC : h.look (.obj c) = some ⟨tCache,encC a b⟩) : Ok tblE cx Fn.cache_Cache_Disk (St.enter [.ptr (.obj c) [] tCache] h) fun v h'=>v = b.enc ∧ h' = h:=upE (CDisk_ok (rd_of hC).1 (rd_of hC).2)
theorem eInode (hC : h.look (.obj c) = some ⟨tCache,encC a b⟩) : Ok tblE cx Fn.cache_Cache_Inode (St.enter [.ptr (.obj c) [] tCache] h) fun v h'=>v = .int .i64 (freeIno a b) ∧ h' = h:=upE (CInode_ok (rd_of hC).1 (rd_of hC).2)
theorem eData (hC : h.look (.obj c) = some ⟨tCache,encC a b⟩) : Ok tblE cx Fn.cache_Cache_Data (St.enter [.ptr (.obj c) [] tCache] h) fun v h'=>v = .int .i64 (freeDat a b) ∧ h' = h:=upE (CData_ok (rd_of hC).1 (rd_of hC).2)
theorem eSlot {d : Int} (hC : h.look (.obj c) = some ⟨tCache,encC a b⟩) : Ok tblE cx Fn.cache_Cache_Slot (St.enter [.ptr (.obj c) [] tCache,.int .i64 d] h) fun v h'=>v = .int .i64 (freeSlot a b d) ∧ h' = h:=upE (CSlot_ok (rd_of hC).1 (rd_of hC).2)
theorem eFind0 {d : Int} {s : Str} (hC : h.look (.obj c) = some ⟨tCache,encC a b⟩) : Ok tblE cx Fn.image_Find (St.enter [.ptr (.obj c) [0] tImage,.int .i64 d,.str s] h) fun v h'=>v = .int .i64 (slotOf a d s) ∧ h' = h:=upE (up (Find_ok (below_obj _ _) (rd_of hC).1))
theorem free_ok {f : Nat} {st d : Int} {s : Str} (hF : h.look (.obj f) = some ⟨tFiles,encF c st⟩) (hC : h.look (.obj c) = some ⟨tCache,encC a b⟩) :
  Ok tblE cx Fn.soft_Files_free (St.enter [.ptr (.obj f) [] tFiles,.int .i64 d,.str s] h) fun v h'=>v = .int .i64 (room a b d s) ∧ h' = h:=by
 rw [Ok_eq]
 simp (maxSteps:=999999) (disch:=omega) only [go_sem,hF,hC]
 refine W_callp rfl ⟨rfl,rfl⟩ (by simp only [go_sem]; exact eDisk (a:=a) (b:=b) (by simp only [go_sem,hC])) ?_
 simp (maxSteps:=999999) (disch:=omega) only [go_sem,hF,hC]
 refine W_callp rfl ⟨rfl,rfl⟩ (by simp only [go_sem]; exact upE (up (Find_ok (m:=b) (below_stk _ _) (by simp only [go_sem,HP.push_rd_own])))) ?_
 simp (maxSteps:=999999) (disch:=omega) only [go_sem,hF,hC]
 by_cases c1 : 0 ≤ slotOf b d s
 ·simp (maxSteps:=999999) (disch:=omega) only [go_sem,c1]; simp [room,c1]
 ·simp (maxSteps:=999999) (disch:=omega) only [go_sem,c1,hF,hC]
  refine W_callp rfl ⟨rfl,rfl⟩ (by simp only [go_sem]; exact eSlot (a:=a) (b:=b) (by simp only [go_sem,hC])) ?_
  simp (maxSteps:=999999) (disch:=omega) only [go_sem]; simp [room,c1]
theorem enter_ok {f n : Nat} {st d : Int} {s : Str} (hl : ∀ n,cx.prot.lets (.obj n) = true) (hF : h.look (.obj f) = some ⟨tFiles,encF c st⟩) (hC : h.look (.obj c) = some ⟨tCache,encC a b⟩) (hne : ¬f = c) (hn : n < 8) :
  Ok tblE cx Fn.soft_Files_enter (St.enter [.ptr (.obj f) [] tFiles,.int .i64 d,.str s,.int .i64 n] h) fun v h'=>v = .int .i64 (enterC a b d s) ∧ h' = h.ob c tCache (encC (enterA a b d s n) b):=by
 rw [Ok_eq]
 simp (maxSteps:=999999) (disch:=omega) only [go_sem,hF,hC]
 refine W_callp rfl ⟨rfl,rfl⟩ (by simp only [go_sem]; exact eFind0 (a:=a) (b:=b) (by simp only [go_sem,hC])) ?_
 simp (maxSteps:=999999) (disch:=omega) only [go_sem]
 by_cases c1 : 0 ≤ slotOf a d s
 ·simp (maxSteps:=999999) (disch:=omega) only [go_sem,c1]
  simp [enterC,enterA,c1,ob_self hC]
 simp (maxSteps:=999999) (disch:=omega) only [go_sem,c1]
 refine W_callp rfl ⟨rfl,rfl⟩ (by simp only [go_sem]; exact free_ok (a:=a) (b:=b) (c:=c) (st:=st) (by simp only [go_sem,hF]) (by simp only [go_sem,hC])) ?_
 simp (maxSteps:=999999) (disch:=omega) only [go_sem]
 rcases room_cases a b d s with e | ⟨k,hk,e,d0,d3,_⟩
 ·simp (maxSteps:=999999) (disch:=omega) only [go_sem,e]
  simp [enterC,enterA,c1,e,ob_self hC]
 ·have k0 : ¬(k : Int) < 0:=by omega
  simp (maxSteps:=999999) (disch:=omega) only [go_sem,e,k0,hF,hC,stV_ob (hl _),look_ob_ne hne]
  simp [enterC,enterA,c1,e,k0,addName]
end
theorem setIno_setIno (m : Img) (n : Nat) (x y : Ino) : (m.setIno n x).setIno n y = m.setIno n y:=by
 refine Img.ext_of (fun k hk=>?_) (fun d s _ _=>rfl) (fun x _=>rfl)
 simp only [ino_setIno]
 split <;> rfl
theorem enterC_setIno (a b : Img) (n : Nat) (y : Ino) (d : Int) (s : Str) : enterC (a.setIno n y) b d s = enterC a b d s:=rfl
theorem room_setIno (a b : Img) (n : Nat) (y : Ino) (d : Int) (s : Str) : room (a.setIno n y) b d s = room a b d s:=rfl
theorem WF_setIno {a : Img} (hw : WF a) {n : Nat} {y : Ino} (hy : ∀ p,-1 ≤ y.prt p ∧ y.prt p < 9) : WF (a.setIno n y):=by
 refine ⟨hw.1,fun k p=>?_⟩
 rw [ino_setIno]
 split
 ·exact hy p
 ·exact hw.2 k p
theorem WF_setEnt {a : Img} (hw : WF a) {d s : Nat} {y : Ent} (hy : 0 ≤ y.ino ∧ y.ino < 8) : WF (a.setEnt d s y):=by
 refine ⟨fun d' s'=>?_,fun k p=>?_⟩
 ·rw [ent_setEnt]
  split
  ·exact hy
  ·exact hw.1 d' s'
 ·rw [ino_setEnt]; exact hw.2 k p
theorem WF_setDat {a : Img} (hw : WF a) {n : Nat} {y : Dat} : WF (a.setDat n y):=hw
theorem prt_none (p : Nat) : -1 ≤ Ino.none.prt p ∧ Ino.none.prt p < 9:=by
 by_cases hp : p < 2
 ·simp [Ino.prt,Ino.none,hp]
 ·simp [Ino.prt,hp]
theorem prt_with (i : Ino) (l : Int) (p : Nat) : Ino.prt ⟨i.live,i.stamp,l,i.part⟩ p = i.prt p:=rfl
theorem prt_new (st : Int) (p : Nat) : (newIno st).prt p = Ino.none.prt p:=rfl
theorem WF_addName {a : Img} (hw : WF a) {d s n : Nat} {name : Str} (n8 : n < 8) : WF (addName a d s name n) :=
 WF_setIno (WF_setEnt hw ⟨by show 0 ≤ (n : Int); omega,by show (n : Int) < 8; omega⟩) fun p=>by rw [prt_with]; exact hw.2 n p
theorem WF_dropName {a : Img} (hw : WF a) {d s : Nat} : WF (dropName a d s):=by
 have h0 : WF (a.setEnt d s .zero):=WF_setEnt hw ⟨by decide,by decide⟩
 unfold dropName
 dsimp only
 split
 ·exact WF_setIno h0 prt_none
 ·exact WF_setIno h0 fun p=>by rw [prt_with]; exact hw.2 _ p
theorem WF_enterA {a b : Img} (hw : WF a) {d : Int} {s : Str} {n : Nat} (n8 : n < 8) : WF (enterA a b d s n):=by
 unfold enterA
 split
 ·exact WF_addName hw n8
 ·exact hw
theorem WF_makeF {F : Fl} (hw : WF F.now) {d : Int} {s : Str} : WF (makeF F d s).now:=by
 unfold makeF
 split
 ·rename_i hm
  rcases freeIno_cases F.now F.disk with e | ⟨n,n8,e,_⟩
  ·unfold makeC at hm
   split at hm
   ·omega
   ·rw [if_pos (.inl (by omega))] at hm; omega
  ·rw [e]
   exact WF_addName (WF_setIno hw fun p=>by rw [prt_new]; exact prt_none p) (by simpa using n8)
 ·exact hw
theorem WF_putA {a b : Img} (hw : WF a) {n p : Nat} {t : Str} : WF (putA a b n p t):=by
 unfold putA
 split
 ·split
  ·exact hw
  ·rcases freeDat_cases a b with e | ⟨k,k9,e,_⟩
   ·omega
   ·refine WF_setDat (WF_setIno hw fun q=>?_)
    rw [prt_setPrt,e]
    split
    ·omega
    ·exact hw.2 n q
 ·exact WF_setDat hw
theorem WF_doF {F : Fl} (hw : WF F.now) (x : SStep) : WF (doF F x).now:=by
 have n8 : ∀ d s,(F.now.ent d s).ino.toNat < 8:=fun d s=>by have:=hw.1 d s; omega
 unfold doF
 split
 ·exact hw
 split
 ·exact WF_makeF hw
 dsimp only
 split
 ·exact WF_enterA hw (n8 _ _)
 split
 ·exact WF_dropName (WF_enterA hw (n8 _ _))
 split
 ·exact WF_dropName hw
 split
 ·exact WF_putA hw
 ·refine WF_setIno hw fun q=>?_
  rw [prt_setPrt]
  split
  ·omega
  ·exact hw.2 _ q
section
variable {cx : Cx} {h : HP} {f c : Nat} {a b : Img} {st : Int}
theorem leave_ok {d s : Int} (hl : ∀ n,cx.prot.lets (.obj n) = true) (hF : h.look (.obj f) = some ⟨tFiles,encF c st⟩) (hC : h.look (.obj c) = some ⟨tCache,encC a b⟩) (hne : ¬f = c)
  (d0 : 0 ≤ d) (d3 : d < 3) (s0 : 0 ≤ s) (s4 : s < 4) (i0 : 0 ≤ (a.ent d.toNat s.toNat).ino) (i8 : (a.ent d.toNat s.toNat).ino < 8) :
  Ok tblE cx Fn.soft_Files_leave (St.enter [.ptr (.obj f) [] tFiles,.int .i64 d,.int .i64 s] h) fun v h'=>v = .tup .unit ∧ h' = h.ob c tCache (encC (dropName a d.toNat s.toNat) b):=by
 have n8 : (a.ent d.toNat s.toNat).ino.toNat < 8:=by omega
 rw [Ok_eq]
 simp (maxSteps:=999999) (disch:=omega) only [go_sem,hF,hC,stV_ob (hl _),look_ob_ne hne,n8]
 by_cases c1 : IntKind.i64.wrap ((a.ino (a.ent d.toNat s.toNat).ino.toNat).links - 1) = 0
 ·simp (maxSteps:=999999) (disch:=omega) only [go_sem,hF,hC,stV_ob (hl _),look_ob_ne hne,n8,c1]
  refine W_callp rfl ⟨rfl,rfl⟩ (by simp only [go_sem]; exact upE (up (Free_ok))) ?_
  simp (maxSteps:=999999) (disch:=omega) only [go_sem,hF,hC,stV_ob (hl _),look_ob_ne hne,n8,c1]
  simp [dropName,c1,setIno_setIno]
 ·simp (maxSteps:=999999) (disch:=omega) only [go_sem,hF,hC,stV_ob (hl _),look_ob_ne hne,n8,c1]
  simp [dropName,c1]
theorem make_ok {F : Fl} {d : Int} {s : Str} (hl : ∀ n,cx.prot.lets (.obj n) = true) (hF : h.look (.obj f) = some ⟨tFiles,encF c F.stamp⟩) (hC : h.look (.obj c) = some ⟨tCache,encC F.now F.disk⟩) (hne : ¬f = c) :
  Ok tblE cx Fn.soft_Files_make (St.enter [.ptr (.obj f) [] tFiles,.int .i64 d,.str s] h) fun v h'=>v = .int .i64 (makeC F d s) ∧ h' = (h.ob f tFiles (encF c (makeF F d s).stamp)).ob c tCache (encC (makeF F d s).now F.disk):=by
 rw [Ok_eq]
 have same : (h.ob f tFiles (encF c F.stamp)).ob c tCache (encC F.now F.disk) = h:=by rw [ob_self hF,ob_self hC]
 have hne' : ¬c = f:=fun e=>hne e.symm
 simp (maxSteps:=999999) (disch:=omega) only [go_sem,hF,hC]
 refine W_callp rfl ⟨rfl,rfl⟩ (by simp only [go_sem]; exact eFind0 (a:=F.now) (b:=F.disk) (by simp only [go_sem,hC])) ?_
 simp (maxSteps:=999999) (disch:=omega) only [go_sem]
 by_cases c1 : 0 ≤ slotOf F.now d s
 ·simp (maxSteps:=999999) (disch:=omega) only [go_sem,c1]
  simp [makeC,makeF,c1,same]
 simp (maxSteps:=999999) (disch:=omega) only [go_sem,c1,hF,hC]
 refine W_callp rfl ⟨rfl,rfl⟩ (by simp only [go_sem]; exact eInode (a:=F.now) (b:=F.disk) (by simp only [go_sem,hC])) ?_
 simp (maxSteps:=999999) (disch:=omega) only [go_sem]
 rcases freeIno_cases F.now F.disk with e | ⟨n,n8,e,_⟩
 ·simp (maxSteps:=999999) (disch:=omega) only [go_sem,e]
  simp [makeC,makeF,c1,e,same]
 have n0 : ¬(n : Int) < 0:=by omega
 simp (maxSteps:=999999) (disch:=omega) only [go_sem,e,n0]
 refine W_callp rfl ⟨rfl,rfl⟩ (by simp only [go_sem]; exact free_ok (a:=F.now) (b:=F.disk) (c:=c) (st:=F.stamp) (by simp only [go_sem,hF]) (by simp only [go_sem,hC])) ?_
 simp (maxSteps:=999999) (disch:=omega) only [go_sem]
 rcases room_cases F.now F.disk d s with e2 | ⟨k,k4,e2,d0,d3,_⟩
 ·simp (maxSteps:=999999) (disch:=omega) only [go_sem,e2]
  simp [makeC,makeF,c1,e,e2,same]
 have k0 : ¬(k : Int) < 0:=by omega
 simp (maxSteps:=999999) (disch:=omega) only [go_sem,e2,k0,hF,hC,stV_ob (hl _),look_ob_ne hne,look_ob_ne hne']
 refine W_callp rfl ⟨rfl,rfl⟩ (by simp only [go_sem]; exact upE (up (Free_ok))) ?_
 simp (maxSteps:=999999) (disch:=omega) only [go_sem,hF,hC,stV_ob (hl _),look_ob_ne hne,look_ob_ne hne',n8]
 rw [setIno_setIno,setIno_setIno]
 have eC : enterC F.now F.disk d s = 0:=by simp [enterC,c1,e2,k0]
 have mC : makeC F d s = 0:=by simp [makeC,c1,e,e2,n0,k0]
 have mF : makeF F d s = ⟨addName (F.now.setIno n (newIno (IntKind.i64.wrap (F.stamp + 1)))) d.toNat k s n,F.disk,IntKind.i64.wrap (F.stamp + 1)⟩:=by
  simp [makeF,mC,e,e2]
 have eA : enterA (F.now.setIno n (newIno (IntKind.i64.wrap (F.stamp + 1)))) F.disk d s n = (makeF F d s).now:=by
  rw [mF,enterA,if_pos (by rw [enterC_setIno]; exact eC),room_setIno,e2]; rfl
 have key:=fun (cy : Cx) (hy : ∀ n,cy.prot.lets (.obj n) = true)=>enter_ok (cx:=cy) (f:=f) (c:=c) (h:=((h.ob f tFiles (encF c (IntKind.i64.wrap (F.stamp + 1)))).ob c tCache (encC (F.now.setIno n (newIno (IntKind.i64.wrap (F.stamp + 1)))) F.disk)).push cx.lvl []) (a:=F.now.setIno n (newIno (IntKind.i64.wrap (F.stamp + 1)))) (b:=F.disk) (st:=IntKind.i64.wrap (F.stamp + 1)) (d:=d) (s:=s) (n:=n) hy (by simp only [go_sem,look_ob_ne hne]) (by simp only [go_sem,]) hne n8
 simp only [eA,enterC_setIno,eC,go_sem] at key
 have mS : (makeF F d s).stamp = IntKind.i64.wrap (F.stamp + 1):=by rw [mF]
 rw [mC,mS]
 refine W_callh (v:=.int .i64 0) ((h.ob f tFiles (encF c (IntKind.i64.wrap (F.stamp + 1)))).ob c tCache (encC (makeF F d s).now F.disk)) rfl ⟨rfl,rfl⟩ rfl (by simp only [go_sem]; exact key _ hl) ?_
 simp (maxSteps:=999999) (disch:=omega) only [go_sem]
end
section
variable {cx : Cx} {h : HP} {f c : Nat} {a b : Img} {st : Int}
theorem put_ok {n : Nat} {p : Int} {t : Str} (hl : ∀ n,cx.prot.lets (.obj n) = true) (hF : h.look (.obj f) = some ⟨tFiles,encF c st⟩) (hC : h.look (.obj c) = some ⟨tCache,encC a b⟩) (hne : ¬f = c)
  (hw : WF a) (n8 : n < 8) (p0 : 0 ≤ p) (p2 : p < 2) :
  Ok tblE cx Fn.soft_Files_put (St.enter [.ptr (.obj f) [] tFiles,.int .i64 n,.int .i64 p,.str t] h) fun v h'=>v = .int .i64 (putC a b n p.toNat) ∧ h' = h.ob c tCache (encC (putA a b n p.toNat t) b):=by
 have p2' : p.toNat < 2:=by omega
 have q9:=(hw.2 n p.toNat).2
 rw [Ok_eq]
 simp (maxSteps:=999999) (disch:=omega) only [go_sem,hF,hC,stV_ob (hl _),look_ob_ne hne]
 by_cases c1 : (a.ino n).prt p.toNat < 0
 ·simp (maxSteps:=999999) (disch:=omega) only [go_sem,hF,hC,stV_ob (hl _),look_ob_ne hne,c1]
  refine W_callp rfl ⟨rfl,rfl⟩ (by simp only [go_sem]; exact eData (a:=a) (b:=b) (by simp only [go_sem,hC])) ?_
  simp (maxSteps:=999999) (disch:=omega) only [go_sem]
  rcases freeDat_cases a b with e | ⟨k,k9,e,_⟩
  ·simp (maxSteps:=999999) (disch:=omega) only [go_sem,e]
   simp [putC,putA,c1,e,ob_self hC]
  ·have k0 : ¬(k : Int) < 0:=by omega
   simp (maxSteps:=999999) (disch:=omega) only [go_sem,e,k0,hF,hC,stV_ob (hl _),look_ob_ne hne,n8,p2']
   simp [putC,putA,c1,e,k0]
 ·simp (maxSteps:=999999) (disch:=omega) only [go_sem,hF,hC,stV_ob (hl _),look_ob_ne hne,c1]
  simp [putC,putA,c1]
theorem Do_ok {F : Fl} {x : SStep} (hl : ∀ n,cx.prot.lets (.obj n) = true) (hF : h.look (.obj f) = some ⟨tFiles,encF c F.stamp⟩) (hC : h.look (.obj c) = some ⟨tCache,encC F.now F.disk⟩) (hne : ¬f = c)
  (hw : WF F.now) (h1 : x.name.size ≤ 9223372036854775807) (h2 : x.to.size ≤ 9223372036854775807) (h3 : x.text.size ≤ 9223372036854775807) :
  Ok tblE cx Fn.soft_Files_Do (St.enter [.ptr (.obj f) [] tFiles,x.enc] h) fun v h'=>v = .int .i64 (doC F x) ∧ h' = (h.ob f tFiles (encF c (doF F x).stamp)).ob c tCache (encC (doF F x).now F.disk):=by
 rw [Ok_eq]
 have same : (h.ob f tFiles (encF c F.stamp)).ob c tCache (encC F.now F.disk) = h:=by rw [ob_self hF,ob_self hC]
 have sameF : ∀ v,(h.ob f tFiles (encF c F.stamp)).ob c tCache v = h.ob c tCache v:=fun v=>by rw [ob_self hF]
 have hne' : ¬c = f:=fun e=>hne e.symm
 simp (maxSteps:=999999) (disch:=omega) only [go_sem]
 refine W_callp rfl ⟨rfl,rfl⟩ (by simp only [go_sem]; exact ICheck_ok h1 h2 h3) ?_
 simp (maxSteps:=999999) (disch:=omega) only [go_sem]
 by_cases c0 : stepFault x = 0
 rotate_left
 ·simp (maxSteps:=999999) (disch:=omega) only [go_sem,c0]
  simp [doC,doF,c0,same]
 obtain ⟨⟨k1,k6⟩,⟨d0,d3⟩,hn,hto,hp,htx⟩:=stepFault_zero c0
 simp (maxSteps:=999999) (disch:=omega) only [go_sem,c0]
 by_cases c1 : x.kind = 1
 ·simp (maxSteps:=999999) (disch:=omega) only [go_sem,c1]
  refine W_callh (v:=.int .i64 (makeC F x.dir x.name)) ((h.ob f tFiles (encF c (makeF F x.dir x.name).stamp)).ob c tCache (encC (makeF F x.dir x.name).now F.disk)) rfl ⟨rfl,rfl⟩ rfl (by simp only [go_sem]; exact make_ok hl hF hC hne) ?_
  simp (maxSteps:=999999) (disch:=omega) only [go_sem]
  by_cases e : makeC F x.dir x.name = 0 <;> simp [doC,doF,c0,c1,e,makeF]
 simp (maxSteps:=999999) (disch:=omega) only [go_sem,c1,hF,hC]
 refine W_callp rfl ⟨rfl,rfl⟩ (by simp only [go_sem]; exact eFind0 (a:=F.now) (b:=F.disk) (by simp only [go_sem,hC])) ?_
 simp (maxSteps:=999999) (disch:=omega) only [go_sem]
 rcases slotOf_cases F.now x.dir x.name with e | ⟨s,s4,e,_⟩
 ·simp (maxSteps:=999999) (disch:=omega) only [go_sem,e]
  simp [doC,doF,c0,c1,e,same]
 have s0 : ¬(s : Int) < 0:=by omega
 have i0:=(hw.1 x.dir.toNat s).1
 have i8:=(hw.1 x.dir.toNat s).2
 have n8 : (F.now.ent x.dir.toNat s).ino.toNat < 8:=by omega
 have ni : (((F.now.ent x.dir.toNat s).ino.toNat : Nat) : Int) = (F.now.ent x.dir.toNat s).ino:=by omega
 simp (maxSteps:=999999) (disch:=omega) only [go_sem,e,s0,hF,hC]
 have enter:=fun (cy : Cx) (hy : ∀ n,cy.prot.lets (.obj n) = true) (o : Own)=>enter_ok (cx:=cy) (h:=h.push cx.lvl o) (f:=f) (c:=c) (a:=F.now) (b:=F.disk) (st:=F.stamp) (d:=x.toDir) (s:=x.to) (n:=(F.now.ent x.dir.toNat s).ino.toNat) hy (by simp only [go_sem,hF]) (by simp only [go_sem,hC]) hne n8
 simp only [ni,go_sem] at enter
 by_cases c2 : x.kind = 2
 ·simp (maxSteps:=999999) (disch:=omega) only [go_sem,c2]
  refine W_callh (v:=.int .i64 (enterC F.now F.disk x.toDir x.to)) (h.ob c tCache (encC (enterA F.now F.disk x.toDir x.to (F.now.ent x.dir.toNat s).ino.toNat) F.disk)) rfl ⟨rfl,rfl⟩ rfl (by simp only [go_sem]; exact enter _ (by exact hl) _) ?_
  simp (maxSteps:=999999) (disch:=omega) only [go_sem]
  by_cases e2 : enterC F.now F.disk x.toDir x.to = 0 <;> simp [doC,doF,c0,c1,c2,e,s0,e2,enterA,sameF]
 by_cases c4 : x.kind = 4
 ·simp (maxSteps:=999999) (disch:=omega) only [go_sem,c2,c4]
  refine W_callh (v:=.int .i64 (enterC F.now F.disk x.toDir x.to)) (h.ob c tCache (encC (enterA F.now F.disk x.toDir x.to (F.now.ent x.dir.toNat s).ino.toNat) F.disk)) rfl ⟨rfl,rfl⟩ rfl (by simp only [go_sem]; exact enter _ (by exact hl) _) ?_
  simp (maxSteps:=999999) (disch:=omega) only [go_sem]
  by_cases e2 : enterC F.now F.disk x.toDir x.to = 0
  ·simp (maxSteps:=999999) (disch:=omega) only [go_sem,e2]
   have hw2:=WF_enterA (b:=F.disk) hw (d:=x.toDir) (s:=x.to) n8
   have leave:=fun (cy : Cx) (hy : ∀ n,cy.prot.lets (.obj n) = true) (o : Own)=>leave_ok (cx:=cy) (h:=(h.ob c tCache (encC (enterA F.now F.disk x.toDir x.to (F.now.ent x.dir.toNat s).ino.toNat) F.disk)).push cx.lvl o) (f:=f) (c:=c) (a:=enterA F.now F.disk x.toDir x.to (F.now.ent x.dir.toNat s).ino.toNat) (b:=F.disk) (st:=F.stamp) (d:=x.dir) (s:=s) hy (by simp only [go_sem,hF,look_ob_ne hne]) (by simp only [go_sem,]) hne d0 d3 (Int.natCast_nonneg s) (by omega) (hw2.1 _ _).1 (hw2.1 _ _).2
   simp only [go_sem] at leave
   refine W_callh (v:=.tup .unit) (h.ob c tCache (encC (dropName (enterA F.now F.disk x.toDir x.to (F.now.ent x.dir.toNat s).ino.toNat) x.dir.toNat s) F.disk)) rfl ⟨rfl,rfl⟩ rfl (by simp only [go_sem]; exact leave _ (by exact hl) _) ?_
   simp (maxSteps:=999999) (disch:=omega) only [go_sem]
   simp [doC,doF,c0,c1,c2,c4,e,s0,e2,sameF]
  ·simp (maxSteps:=999999) (disch:=omega) only [go_sem,e2]
   simp [doC,doF,c0,c1,c2,c4,e,s0,e2,enterA,same,ob_self hC]
 by_cases c3 : x.kind = 3
 ·simp (maxSteps:=999999) (disch:=omega) only [go_sem,c2,c4,c3]
  refine W_callh (v:=.tup .unit) (h.ob c tCache (encC (dropName F.now x.dir.toNat s) F.disk)) rfl ⟨rfl,rfl⟩ rfl (by simp only [go_sem]; exact leave_ok (a:=F.now) (b:=F.disk) (st:=F.stamp) hl (by simp only [go_sem,hF]) (by simp only [go_sem,hC]) hne d0 d3 (Int.natCast_nonneg s) (by omega) (by simpa using i0) (by simpa using i8)) ?_
  simp (maxSteps:=999999) (disch:=omega) only [go_sem]
  simp [doC,doF,c0,c1,c2,c3,c4,e,s0,sameF]
 by_cases c5 : x.kind = 5
 ·simp (maxSteps:=999999) (disch:=omega) only [go_sem,c2,c4,c3,c5]
  have put:=fun (cy : Cx) (hy : ∀ n,cy.prot.lets (.obj n) = true) (o : Own)=>put_ok (cx:=cy) (h:=h.push cx.lvl o) (f:=f) (c:=c) (a:=F.now) (b:=F.disk) (st:=F.stamp) (p:=x.p) (t:=x.text) (n:=(F.now.ent x.dir.toNat s).ino.toNat) hy (by simp only [go_sem,hF]) (by simp only [go_sem,hC]) hne hw n8 (hp (.inl c5)).1 (hp (.inl c5)).2
  simp only [ni,go_sem] at put
  refine W_callh (v:=.int .i64 (putC F.now F.disk (F.now.ent x.dir.toNat s).ino.toNat x.p.toNat)) (h.ob c tCache (encC (putA F.now F.disk (F.now.ent x.dir.toNat s).ino.toNat x.p.toNat x.text) F.disk)) rfl ⟨rfl,rfl⟩ rfl (by simp only [go_sem]; exact put _ (by exact hl) _) ?_
  simp (maxSteps:=999999) (disch:=omega) only [go_sem]
  by_cases e2 : putC F.now F.disk (F.now.ent x.dir.toNat s).ino.toNat x.p.toNat = 0
  ·simp [doC,doF,c0,c1,c2,c3,c4,c5,e,s0,e2,sameF]
  ·have : putA F.now F.disk (F.now.ent x.dir.toNat s).ino.toNat x.p.toNat x.text = F.now:=by
    have e3 : (F.now.ino (F.now.ent x.dir.toNat s).ino.toNat).prt x.p.toNat < 0 ∧ freeDat F.now F.disk < 0:=by
     simp only [putC] at e2; split at e2
     ·assumption
     ·exact absurd rfl e2
    simp [putA,e3.1,e3.2]
   simp [doC,doF,c0,c1,c2,c3,c4,c5,e,s0,e2,this,same,ob_self hC]
 have c6 : x.kind = 6:=by omega
 have hp0:=(hp (.inr c6)).1
 have hp2:=(hp (.inr c6)).2
 simp (maxSteps:=999999) (disch:=omega) only [go_sem,c2,c4,c3,c5,c6,hF,hC,stV_ob (hl _),look_ob_ne hne]
 simp [doC,doF,c0,c1,c2,c3,c4,c5,e,s0,sameF]
def readC (a : Img) (d : Int) (s : Str) (p : Int) : Int :=
 if stepFault ⟨6,d,0,p,s,⟨#[]⟩,⟨#[]⟩⟩ ≠ 0 then stepFault ⟨6,d,0,p,s,⟨#[]⟩,⟨#[]⟩⟩ else if slotOf a d s < 0 then 5 else 0
def readX (a : Img) (d : Int) (s : Str) (p : Int) : Int:=(a.ino (a.ent d.toNat (slotOf a d s).toNat).ino.toNat).prt p.toNat
def readB (a : Img) (d : Int) (s : Str) (p : Int) : Bool:=decide (readC a d s p = 0) && !decide (readX a d s p < 0)
def readT (a : Img) (d : Int) (s : Str) (p : Int) : Str:=if readB a d s p = true then (a.dat (readX a d s p).toNat).text else ⟨#[]⟩
def sameB (a : Img) (d : Int) (s : Str) (e : Int) (t : Str) : Bool:=decide (0 ≤ slotOf a d s) && decide (0 ≤ slotOf a e t) &&
 decide ((a.ent d.toNat (slotOf a d s).toNat).ino = (a.ent e.toNat (slotOf a e t).toNat).ino)
def sureB (a b : Img) (d : Int) (s : Str) : Bool:=decide (0 ≤ slotOf a d s) && decide (b.ent d.toNat (slotOf a d s).toNat = a.ent d.toNat (slotOf a d s).toNat)
def encR (t : Str) (b : Bool) (c : Int) : AV:=.tup (.cons (.str t) (.cons (.bool b) (.cons (.int .i64 c) .unit)))
@[go_sem] theorem fill_step1 (k d p : Int) (s : Str) : fill tStep tStep.zero [(0,.int .i64 k),(1,.int .i64 d),(4,.str s),(3,.int .i64 p)] = some (SStep.enc ⟨k,d,0,p,s,⟨#[]⟩,⟨#[]⟩⟩):=rfl
@[go_sem] theorem encR_mk (t : Str) (b : Bool) (c : Int) : some (AV.tup (.cons (.str t) (.cons (.bool b) (.cons (.int .i64 c) .unit)))) = some (encR t b c):=rfl
theorem Read_ok {d p : Int} {s : Str} (hF : h.look (.obj f) = some ⟨tFiles,encF c st⟩) (hC : h.look (.obj c) = some ⟨tCache,encC a b⟩) (hw : WF a) (hs : s.size ≤ 9223372036854775807) :
  Ok tblE cx Fn.soft_Files_Read (St.enter [.ptr (.obj f) [] tFiles,.int .i64 d,.str s,.int .i64 p] h) fun v h'=>v = encR (readT a d s p) (readB a d s p) (readC a d s p) ∧ h' = h:=by
 rw [Ok_eq]
 simp (maxSteps:=999999) (disch:=omega) only [go_sem]
 refine W_callp rfl ⟨rfl,rfl⟩ (by simp only [go_sem]; exact ICheck_ok (x:=⟨6,d,0,p,s,⟨#[]⟩,⟨#[]⟩⟩) hs (Nat.zero_le _) (Nat.zero_le _)) ?_
 simp (maxSteps:=999999) (disch:=omega) only [go_sem]
 by_cases c0 : stepFault ⟨6,d,0,p,s,⟨#[]⟩,⟨#[]⟩⟩ = 0
 rotate_left
 ·simp (maxSteps:=999999) (disch:=omega) only [go_sem,c0]
  simp [readC,readB,readT,c0,encR]
 obtain ⟨_,⟨d0,d3⟩,_,_,hp,_⟩:=stepFault_zero c0
 obtain ⟨p0,p2⟩:=hp (.inr rfl)
 simp only at d0 d3 p0 p2
 simp (maxSteps:=999999) (disch:=omega) only [go_sem,c0,hF,hC]
 refine W_callp rfl ⟨rfl,rfl⟩ (by simp only [go_sem]; exact eFind0 (a:=a) (b:=b) (by simp only [go_sem,hC])) ?_
 simp (maxSteps:=999999) (disch:=omega) only [go_sem]
 rcases slotOf_cases a d s with e | ⟨k,k4,e,_⟩
 ·simp (maxSteps:=999999) (disch:=omega) only [go_sem,e]
  simp [readC,readB,readT,c0,e,encR]
 have k0 : ¬(k : Int) < 0:=by omega
 have i0:=(hw.1 d.toNat k).1
 have i8:=(hw.1 d.toNat k).2
 have q9:=(hw.2 (a.ent d.toNat k).ino.toNat p.toNat).2
 simp (maxSteps:=999999) (disch:=omega) only [go_sem,e,k0,hF,hC]
 by_cases c1 : (a.ino (a.ent d.toNat k).ino.toNat).prt p.toNat < 0
 ·simp (maxSteps:=999999) (disch:=omega) only [go_sem,c1]
  simp [readC,readB,readT,readX,c0,e,k0,c1,encR]
 ·simp (maxSteps:=999999) (disch:=omega) only [go_sem,c1,hF,hC]
  simp [readC,readB,readT,readX,c0,e,k0,c1,encR]
theorem Same_ok {d e : Int} {s t : Str} (hF : h.look (.obj f) = some ⟨tFiles,encF c st⟩) (hC : h.look (.obj c) = some ⟨tCache,encC a b⟩) :
  Ok tblE cx Fn.soft_Files_Same (St.enter [.ptr (.obj f) [] tFiles,.int .i64 d,.str s,.int .i64 e,.str t] h) fun v h'=>v = .bool (sameB a d s e t) ∧ h' = h:=by
 rw [Ok_eq]
 simp (maxSteps:=999999) (disch:=omega) only [go_sem,hF,hC]
 refine W_callp rfl ⟨rfl,rfl⟩ (by simp only [go_sem]; exact eFind0 (a:=a) (b:=b) (by simp only [go_sem,hC])) ?_
 simp (maxSteps:=999999) (disch:=omega) only [go_sem,hF,hC]
 refine W_callp rfl ⟨rfl,rfl⟩ (by simp only [go_sem]; exact eFind0 (a:=a) (b:=b) (by simp only [go_sem,hC])) ?_
 simp (maxSteps:=999999) (disch:=omega) only [go_sem,hF,hC]
 rcases slotOf_cases a d s with e1 | ⟨k,k4,e1,d0,d3,_⟩
 ·simp (maxSteps:=999999) (disch:=omega) only [go_sem,e1]
  simp [sameB,e1]
 rcases slotOf_cases a e t with e2 | ⟨j,j4,e2,e0,e3,_⟩
 ·simp (maxSteps:=999999) (disch:=omega) only [go_sem,e1,e2]
  simp [sameB,e1,e2]
 simp (maxSteps:=999999) (disch:=omega) only [go_sem,e1,e2,hF,hC]
 simp [sameB,e1,e2]
theorem Sure_ok {d : Int} {s : Str} (hF : h.look (.obj f) = some ⟨tFiles,encF c st⟩) (hC : h.look (.obj c) = some ⟨tCache,encC a b⟩) :
  Ok tblE cx Fn.soft_Files_Sure (St.enter [.ptr (.obj f) [] tFiles,.int .i64 d,.str s] h) fun v h'=>v = .bool (sureB a b d s) ∧ h' = h:=by
 rw [Ok_eq]
 simp (maxSteps:=999999) (disch:=omega) only [go_sem,hF,hC]
 refine W_callp rfl ⟨rfl,rfl⟩ (by simp only [go_sem]; exact eFind0 (a:=a) (b:=b) (by simp only [go_sem,hC])) ?_
 simp (maxSteps:=999999) (disch:=omega) only [go_sem,hF,hC]
 refine W_callp rfl ⟨rfl,rfl⟩ (by simp only [go_sem]; exact eDisk (a:=a) (b:=b) (by simp only [go_sem,hC])) ?_
 simp (maxSteps:=999999) (disch:=omega) only [go_sem,hF,hC]
 rcases slotOf_cases a d s with e1 | ⟨k,k4,e1,d0,d3,_⟩
 ·simp (maxSteps:=999999) (disch:=omega) only [go_sem,e1]
  simp [sureB,e1]
 simp (maxSteps:=999999) (disch:=omega) only [go_sem,e1,hF,hC]
 simp [sureB,e1]
end
structure Bd where
 now : Img
 disk : Img
 stamp : Int
 crashes : Int
 files : Int
 counts : Int
 datas : Int
def tailB (s c f n d : Int) : AV:=.cons (.int .i64 s) (.cons (.int .i64 c) (.cons (.int .i64 f) (.cons (.int .i64 n) (.cons (.int .i64 d) .unit))))
def Bd.enc (B : Bd) : AV:=.cons B.now.enc (.cons B.disk.enc (tailB B.stamp B.crashes B.files B.counts B.datas))
@[go_sem] theorem at_B0 (B : Bd) (p : List Nat) : B.enc.at (0 :: p) = B.now.enc.at p:=rfl
@[go_sem] theorem at_B1 (B : Bd) (p : List Nat) : B.enc.at (1 :: p) = B.disk.enc.at p:=rfl
@[go_sem] theorem at_B2 (B : Bd) : B.enc.at [2] = some (.int .i64 B.stamp):=rfl
@[go_sem] theorem at_B3 (B : Bd) : B.enc.at [3] = some (.int .i64 B.crashes):=rfl
@[go_sem] theorem at_B4 (B : Bd) : B.enc.at [4] = some (.int .i64 B.files):=rfl
@[go_sem] theorem at_B5 (B : Bd) : B.enc.at [5] = some (.int .i64 B.counts):=rfl
@[go_sem] theorem at_B6 (B : Bd) : B.enc.at [6] = some (.int .i64 B.datas):=rfl
@[go_sem] theorem put_B0 (B : Bd) (p : List Nat) (x : AV) : B.enc.put (0 :: p) x = (B.now.enc.put p x).map fun y=>.cons y (.cons B.disk.enc (tailB B.stamp B.crashes B.files B.counts B.datas)):=rfl
@[go_sem] theorem put_B1 (B : Bd) (p : List Nat) (x : AV) : B.enc.put (1 :: p) x = (B.disk.enc.put p x).map fun y=>.cons B.now.enc (.cons y (tailB B.stamp B.crashes B.files B.counts B.datas)):=by
 show ((B.disk.enc.put p x).map fun y=>AV.cons y (tailB B.stamp B.crashes B.files B.counts B.datas)).map (fun y=>AV.cons B.now.enc y) = _
 cases B.disk.enc.put p x <;> rfl
@[go_sem] theorem put_B2 (B : Bd) (x : Int) : B.enc.put [2] (.int .i64 x) = some (Bd.enc { B with stamp:=x }):=rfl
@[go_sem] theorem put_B3 (B : Bd) (x : Int) : B.enc.put [3] (.int .i64 x) = some (Bd.enc { B with crashes:=x }):=rfl
@[go_sem] theorem put_B4 (B : Bd) (x : Int) : B.enc.put [4] (.int .i64 x) = some (Bd.enc { B with files:=x }):=rfl
@[go_sem] theorem put_B5 (B : Bd) (x : Int) : B.enc.put [5] (.int .i64 x) = some (Bd.enc { B with counts:=x }):=rfl
@[go_sem] theorem put_B6 (B : Bd) (x : Int) : B.enc.put [6] (.int .i64 x) = some (Bd.enc { B with datas:=x }):=rfl
@[go_sem] theorem Bmk (a b : Img) (s c f n d : Int) : AV.cons a.enc (.cons b.enc (tailB s c f n d)) = Bd.enc ⟨a,b,s,c,f,n,d⟩:=rfl
@[go_sem] theorem field_B0 : tBed.field 0 = some tImage:=rfl
@[go_sem] theorem field_B1 : tBed.field 1 = some tImage:=rfl
@[go_sem] theorem field_B2 : tBed.field 2 = some tI:=rfl
@[go_sem] theorem field_B3 : tBed.field 3 = some tI:=rfl
@[go_sem] theorem field_B4 : tBed.field 4 = some tI:=rfl
@[go_sem] theorem field_B5 : tBed.field 5 = some tI:=rfl
@[go_sem] theorem field_B6 : tBed.field 6 = some tI:=rfl
theorem fits_B' (B : Bd) : tBed.fits B.enc = true:=by
 show (Ty.cons tImage (.cons tImage _)).fits (AV.cons _ (.cons _ _)) = true
 simp only [fits_cons,fits_img',true_and]
 rfl
@[go_sem] theorem fits_B (B : Bd) : (tBed.fits B.enc = true) = True:=eq_true (fits_B' B)
@[go_sem] theorem fg_B (B : Bd) (i : Id) : fg B.enc i = B.enc:=rfl
@[go_sem] theorem leads_B (B : Bd) (i : Id) : B.enc.leads i = false:=rfl
theorem zero_bed : tBed.zero = Bd.enc ⟨.zero,.zero,0,0,0,0,0⟩:=by
 show AV.cons tImage.zero (.cons tImage.zero _) = _
 rw [zero_img]; rfl
@[go_sem] theorem fill_B (a b : Img) : fill tBed tBed.zero [(0,a.enc),(1,b.enc)] = some (Bd.enc ⟨a,b,0,0,0,0,0⟩):=by
 rw [zero_bed]
 simp only [fill]
 show (if tImage.fits a.enc = true then _ else _) = _
 rw [if_pos (fits_img' a),put_B0,put_nil,Option.map_some,Bmk]
 show (if tImage.fits b.enc = true then _ else _) = _
 rw [if_pos (fits_img' b),put_B1,put_nil,Option.map_some,Bmk]
theorem rdB0 {h : HP} {n : Nat} {B : Bd} (e : h.look (.obj n) = some ⟨tBed,B.enc⟩) : h.rd (.obj n) [0] = some B.now.enc:=by simp only [HP.rd,e,Option.bind_some,at_B0,at_nil]
theorem rdB1 {h : HP} {n : Nat} {B : Bd} (e : h.look (.obj n) = some ⟨tBed,B.enc⟩) : h.rd (.obj n) [1] = some B.disk.enc:=by simp only [HP.rd,e,Option.bind_some,at_B1,at_nil]
def Bd.fl (B : Bd) : Fl:=⟨B.now,B.disk,B.stamp⟩
section
variable {T : Nat → Option MFun} {cx : Cx} {k : List Item} {kill : List Nat} {r : List MOp} {sl : Slots} {own : Own} {h : HP} {Q : St → Prop}
def WBX (T : Nat → Option MFun) (cx : Cx) (t : Ty) (v : AV) (d : Nat) (r : List MOp) (kill : List Nat) (k : List Item) (sl : Slots) (own : Own) (h : HP) (Q : St → Prop) : Prop :=
 t.fits v = true ∧ W T cx (.ops r kill :: k) ⟨sl.set d (.ptr (.obj h.next) [] t),own,h.nw t v⟩ Q
@[go_sem] theorem WBX_bed {B : Bd} {d : Nat} : WBX T cx tBed B.enc d r kill k sl own h Q = W T cx (.ops r kill :: k) ⟨sl.set d (.ptr (.obj h.next) [] tBed),own,h.nw tBed B.enc⟩ Q:=by
 simp only [WBX,fits_B,true_and]
@[go_sem] theorem WBX_files {c : Nat} {n : Int} {d : Nat} : WBX T cx tFiles (encF c n) d r kill k sl own h Q = W T cx (.ops r kill :: k) ⟨sl.set d (.ptr (.obj h.next) [] tFiles),own,h.nw tFiles (encF c n)⟩ Q:=by
 simp only [WBX,fits_F,true_and]
theorem W_boxX {d : Nat} {t : Ty} {x : Opd} : W T cx (.ops (⟨some d,.box true t x,none⟩ :: r) kill :: k) ⟨sl,own,h⟩ Q = WBX T cx t (St.opd ⟨sl,own,h⟩ x) d r kill k sl own h Q:=by
 rw [W_op rfl,evOp]
 simp only [evK,WBX]
 by_cases h1 : t.fits (St.opd ⟨sl,own,h⟩ x) = true
 ·simp only [h1,true_and,if_true]; rfl
 ·simp only [h1,false_and,Bool.false_eq_true,if_false]; rfl
@[go_sem] theorem W_boxBed {d : Nat} {x : Opd} : W T cx (.ops (⟨some d,.box true tBed x,none⟩ :: r) kill :: k) ⟨sl,own,h⟩ Q = WBX T cx tBed (St.opd ⟨sl,own,h⟩ x) d r kill k sl own h Q:=W_boxX
@[go_sem] theorem W_boxFiles {d : Nat} {x : Opd} : W T cx (.ops (⟨some d,.box true tFiles x,none⟩ :: r) kill :: k) ⟨sl,own,h⟩ Q = WBX T cx tFiles (St.opd ⟨sl,own,h⟩ x) d r kill k sl own h Q:=W_boxX
@[go_sem] theorem mk1_nw (a b : Img) : h.mk1 a b = h.nw tCache (encC a b):=rfl
end
section
variable {cx : Cx} {h : HP} {n : Nat} {B : Bd}
theorem NewBed_ok : Ok tblE cx Fn.r_NewBed (St.enter [] h) fun v h'=>v = .ptr (.obj h.next) [] tBed ∧ h' = h.nw tBed (Bd.enc ⟨.blank,.blank,0,0,0,0,0⟩):=by
 rw [Ok_eq]
 simp (maxSteps:=999999) (disch:=omega) only [go_sem]
 refine W_callp rfl ⟨rfl,rfl⟩ (by simp only [go_sem]; exact upE (up (Blank_ok))) ?_
 simp (maxSteps:=999999) (disch:=omega) only [go_sem]
 refine W_callp rfl ⟨rfl,rfl⟩ (by simp only [go_sem]; exact upE (up (Blank_ok))) ?_
 simp (maxSteps:=999999) (disch:=omega) only [go_sem]
theorem rFreeInode_ok (hB : h.look (.obj n) = some ⟨tBed,B.enc⟩) : Ok tblE cx Fn.r_Bed_FreeInode (St.enter [.ptr (.obj n) [] tBed] h) fun v h'=>v = .int .i64 (freeIno B.now B.disk) ∧ h' = h:=by
 rw [Ok_eq]
 simp (maxSteps:=999999) (disch:=omega) only [go_sem]
 refine W_forP 8 (fun k=>⟨[(0,.ptr (.obj n) [] tBed),(3,.int .i64 k)],[],h⟩) (fun k=>∀ i,i < k → (!(B.now.ino i).live && decide (refs B.disk i = 0)) = false) (by simp only [go_sem] <;> rfl) (fun i hi=>by omega) fun k hk hp ih=>?_
 by_cases hlt : k < 8
 ·simp (maxSteps:=999999) (disch:=omega) only [go_sem,hlt,hB]
  cases c1 : (B.now.ino k).live with
  | true =>
   simp (maxSteps:=999999) (disch:=omega) only [go_sem,c1]
   refine ih _ hlt (step_all hp (by simp [c1])) ?_
   simp only [go_sem]
  | false =>
   simp (maxSteps:=999999) (disch:=omega) only [go_sem,c1,hB]
   refine W_callp rfl ⟨rfl,rfl⟩ (by simp only [go_sem]; exact upE (up (Leads_ok (m:=B.disk) (p:=.obj n) (q:=[1]) (below_obj _ _) (by rw [HP.push_rd_ext (below_obj _ _)]; exact rdB1 hB)))) ?_
   simp (maxSteps:=999999) (disch:=omega) only [go_sem]
   by_cases c2 : refs B.disk k = 0
   ·simp (maxSteps:=999999) (disch:=omega) only [go_sem,c2]
    rw [freeIno,findN_at hp (by simp [c1,c2]) hlt]
   ·simp (maxSteps:=999999) (disch:=omega) only [go_sem,c2]
    refine ih _ hlt (step_all hp (by simp [c1,c2])) ?_
    simp only [go_sem]
 ·obtain rfl : k = 8:=by omega
  simp (maxSteps:=999999) (disch:=omega) only [go_sem]
  rw [freeIno,findN_none hp]
theorem rFreeSlot_ok {d : Int} (hB : h.look (.obj n) = some ⟨tBed,B.enc⟩) : Ok tblE cx Fn.r_Bed_FreeSlot (St.enter [.ptr (.obj n) [] tBed,.int .i64 d] h) fun v h'=>v = .int .i64 (freeSlot B.now B.disk d) ∧ h' = h:=by
 rw [Ok_eq]
 simp (maxSteps:=999999) (disch:=omega) only [go_sem]
 by_cases c0 : d < 0
 ·simp (maxSteps:=999999) (disch:=omega) only [go_sem,c0]; simp [freeSlot,c0]
 by_cases c3 : 3 ≤ d
 ·simp (maxSteps:=999999) (disch:=omega) only [go_sem,c0,c3]; simp [freeSlot,c3]
 have e : freeSlot B.now B.disk d = findN 4 fun s=>decide ((B.now.ent d.toNat s).name = ⟨#[]⟩) && decide ((B.disk.ent d.toNat s).name = ⟨#[]⟩):=by simp only [freeSlot]; rw [if_neg (by omega)]
 simp (maxSteps:=999999) (disch:=omega) only [go_sem,c0,c3]
 refine W_forP 4 (fun s=>⟨[(0,.ptr (.obj n) [] tBed),(1,.int .i64 d),(5,.int .i64 s)],[],h⟩) (fun s=>∀ i,i < s → (decide ((B.now.ent d.toNat i).name = ⟨#[]⟩) && decide ((B.disk.ent d.toNat i).name = ⟨#[]⟩)) = false) (by simp only [go_sem] <;> rfl) (fun i hi=>by omega) fun s hs hp ih=>?_
 by_cases hlt : s < 4
 ·simp (maxSteps:=999999) (disch:=omega) only [go_sem,hlt,c0,c3,hB]
  by_cases c1 : (B.now.ent d.toNat s).name = ⟨#[]⟩
  ·by_cases c2 : (B.disk.ent d.toNat s).name = ⟨#[]⟩
   ·simp (maxSteps:=999999) (disch:=omega) only [go_sem,hlt,c0,c3,c1,c2,hB,e]
    rw [findN_at hp (by simp [c1,c2]) hlt]
   ·simp (maxSteps:=999999) (disch:=omega) only [go_sem,hlt,c0,c3,c1,c2,hB]
    refine ih _ hlt (step_all hp (by simp [c2])) ?_
    simp only [go_sem]
  ·simp (maxSteps:=999999) (disch:=omega) only [go_sem,c1]
   refine ih _ hlt (step_all hp (by simp [c1])) ?_
   simp only [go_sem]
 ·obtain rfl : s = 4:=by omega
  simp (maxSteps:=999999) (disch:=omega) only [go_sem,e]
  rw [findN_none hp]
theorem rFreeData_ok (hB : h.look (.obj n) = some ⟨tBed,B.enc⟩) : Ok tblE cx Fn.r_Bed_FreeData (St.enter [.ptr (.obj n) [] tBed] h) fun v h'=>v = .int .i64 (freeDat B.now B.disk) ∧ h' = h:=by
 rw [Ok_eq]
 simp (maxSteps:=999999) (disch:=omega) only [go_sem]
 refine W_forP 9 (fun k=>⟨[(0,.ptr (.obj n) [] tBed),(3,.int .i64 k)],[],h⟩) (fun k=>∀ i,i < k → (!held B.now i && !held B.disk i) = false) (by simp only [go_sem] <;> rfl) (fun i hi=>by omega) fun k hk hp ih=>?_
 by_cases hlt : k < 9
 ·simp (maxSteps:=999999) (disch:=omega) only [go_sem,hlt]
  refine W_callp rfl ⟨rfl,rfl⟩ (by simp only [go_sem]; exact upE (up (Held_ok (m:=B.now) (p:=.obj n) (q:=[0]) (below_obj _ _) (by rw [HP.push_rd_ext (below_obj _ _)]; exact rdB0 hB)))) ?_
  simp (maxSteps:=999999) (disch:=omega) only [go_sem]
  cases c1 : held B.now k with
  | true =>
   simp (maxSteps:=999999) (disch:=omega) only [go_sem,c1]
   refine ih _ hlt (step_all hp (by simp [c1])) ?_
   simp only [go_sem]
  | false =>
   simp (maxSteps:=999999) (disch:=omega) only [go_sem,c1]
   refine W_callp rfl ⟨rfl,rfl⟩ (by simp only [go_sem]; exact upE (up (Held_ok (m:=B.disk) (p:=.obj n) (q:=[1]) (below_obj _ _) (by rw [HP.push_rd_ext (below_obj _ _)]; exact rdB1 hB)))) ?_
   simp (maxSteps:=999999) (disch:=omega) only [go_sem]
   cases c2 : held B.disk k with
   | false =>
    simp (maxSteps:=999999) (disch:=omega) only [go_sem,c2]
    rw [freeDat,findN_at hp (by simp [c1,c2]) hlt]
   | true =>
    simp (maxSteps:=999999) (disch:=omega) only [go_sem,c2]
    refine ih _ hlt (step_all hp (by simp [c1,c2])) ?_
    simp only [go_sem]
 ·obtain rfl : k = 9:=by omega
  simp (maxSteps:=999999) (disch:=omega) only [go_sem]
  rw [freeDat,findN_none hp]
theorem rroom_ok {d : Int} {s : Str} (hB : h.look (.obj n) = some ⟨tBed,B.enc⟩) : Ok tblE cx Fn.r_Bed_room (St.enter [.ptr (.obj n) [] tBed,.int .i64 d,.str s] h) fun v h'=>v = .bool (decide (0 ≤ room B.now B.disk d s)) ∧ h' = h:=by
 rw [Ok_eq]
 simp (maxSteps:=999999) (disch:=omega) only [go_sem]
 refine W_callp rfl ⟨rfl,rfl⟩ (by simp only [go_sem]; exact rFreeSlot_ok (B:=B) (by simp only [go_sem,hB])) ?_
 simp (maxSteps:=999999) (disch:=omega) only [go_sem]
 rcases freeSlot_cases B.now B.disk d with e | ⟨k,k4,e,d0,d3,_⟩
 ·simp (maxSteps:=999999) (disch:=omega) only [go_sem,e]
  simp [room,e]
 ·simp (maxSteps:=999999) (disch:=omega) only [go_sem,e]
  refine W_callp rfl ⟨rfl,rfl⟩ (by simp only [go_sem]; exact upE (up (SlotOf_ok (m:=B.disk) (p:=.obj n) (q:=[1]) (below_obj _ _) (by rw [HP.push_rd_ext (below_obj _ _)]; exact rdB1 hB)))) ?_
  simp (maxSteps:=999999) (disch:=omega) only [go_sem]
  by_cases c1 : 0 ≤ slotOf B.disk d s
  ·have c2 : ¬slotOf B.disk d s < 0:=by omega
   simp (maxSteps:=999999) (disch:=omega) only [go_sem,c1,c2]; simp [room,c1]
  ·have c2 : slotOf B.disk d s < 0:=by omega
   simp (maxSteps:=999999) (disch:=omega) only [go_sem,c1,c2]; simp [room,c1,e]
theorem radd_ok {d : Int} {s : Str} {i k : Nat} (hl : ∀ n,cx.prot.lets (.obj n) = true) (hB : h.look (.obj n) = some ⟨tBed,B.enc⟩) (hk : k < 4) (e : freeSlot B.now B.disk d = k) (d0 : 0 ≤ d) (d3 : d < 3) (i8 : i < 8) :
  Ok tblE cx Fn.r_Bed_add (St.enter [.ptr (.obj n) [] tBed,.int .i64 d,.str s,.int .i64 i] h) fun v h'=>v = .tup .unit ∧ h' = h.ob n tBed (Bd.enc { B with now:=addName B.now d.toNat k s i }):=by
 rw [Ok_eq]
 simp (maxSteps:=999999) (disch:=omega) only [go_sem]
 refine W_callp rfl ⟨rfl,rfl⟩ (by simp only [go_sem]; exact rFreeSlot_ok (B:=B) (by simp only [go_sem,hB])) ?_
 simp (maxSteps:=999999) (disch:=omega) only [go_sem,e,hB,stV_ob (hl _)]
 simp only [addName]
theorem rWrite_ok {x : Int} (hl : ∀ n,cx.prot.lets (.obj n) = true) (hB : h.look (.obj n) = some ⟨tBed,B.enc⟩) :
  Ok tblE cx Fn.r_Bed_Write (St.enter [.ptr (.obj n) [] tBed,.int .i64 x] h) fun v h'=>v = .bool (writeAs B.now B.disk x).2 ∧ h' = h.ob n tBed (Bd.enc { B with disk:=(writeAs B.now B.disk x).1 }):=by
 rw [Ok_eq]
 simp (maxSteps:=999999) (disch:=omega) only [go_sem]
 refine W_callhide rfl ⟨rfl,rfl⟩ (by simp only [go_sem]; exact upE (up (WriteAs_ok (m:=B.now) (m':=B.disk) (p:=.obj n) (p':=.obj n) (q:=[0]) (q':=[1]) (below_obj _ _) (by rw [HP.push_rd_ext (below_obj _ _)]; exact rdB0 hB) (below_obj _ _) (by rw [HP.push_rd_ext (below_obj _ _)]; exact rdB1 hB)))) ?_
 simp (maxSteps:=999999) (disch:=omega) only [go_sem,hB,stV_ob (hl _)]
theorem rSync_ok (hl : ∀ n,cx.prot.lets (.obj n) = true) : Ok tblE cx Fn.r_Bed_Sync (St.enter [.ptr (.obj n) [] tBed] (h.ob n tBed B.enc)) fun v h' =>
  ∃ k : Nat,k ≤ 8 ∧ v = .int .i64 k ∧ h' = h.ob n tBed (Bd.enc { B with disk:=syncD B.now B.disk k }) ∧ (k = 8 ∨ B.now = syncD B.now B.disk k) ∧ ∀ i,i < k → ¬B.now = syncD B.now B.disk i:=by
 rw [Ok_eq]
 simp (maxSteps:=999999) (disch:=omega) only [go_sem]
 refine W_forP 8 (fun j=>⟨[(0,.ptr (.obj n) [] tBed),(3,.int .i64 j)],[],h.ob n tBed (Bd.enc { B with disk:=syncD B.now B.disk j })⟩) (fun j=>∀ i,i < j → ¬B.now = syncD B.now B.disk i) (by simp only [go_sem,syncD] <;> rfl) (fun i hi=>by omega) fun j hj hp ih=>?_
 by_cases hlt : j < 8
 ·simp (maxSteps:=999999) (disch:=omega) only [go_sem]
  by_cases c : B.now = syncD B.now B.disk j
  ·have c' : decide (B.now = syncD B.now B.disk j) = true:=decide_eq_true c
   simp (maxSteps:=999999) (disch:=omega) only [go_sem,c']
   exact ⟨j,hj,rfl,rfl,.inr c,hp⟩
  ·simp (maxSteps:=999999) (disch:=omega) only [go_sem,c]
   refine W_for 14 (fun i=>⟨[(0,.ptr (.obj n) [] tBed),(3,.int .i64 j),(4,.int .i64 (13 - (i : Int)))],[],h.ob n tBed (Bd.enc { B with disk:=wrDown B.now (syncD B.now B.disk j) i })⟩) (by simp only [go_sem,wrDown] <;> rfl) fun i hi ih2=>?_
   by_cases hlt2 : i < 14
   ·have wr:=fun (cy : Cx) (hy : ∀ n,cy.prot.lets (.obj n) = true) (o : Own)=>rWrite_ok (cx:=cy) (h:=(h.ob n tBed (Bd.enc { B with disk:=wrDown B.now (syncD B.now B.disk j) i })).push cx.lvl o) (n:=n) (B:={ B with disk:=wrDown B.now (syncD B.now B.disk j) i }) (x:=13 - (i : Int)) hy (by simp only [go_sem,])
    simp only [go_sem] at wr
    simp (maxSteps:=999999) (disch:=omega) only [go_sem]
    refine W_callh (v:=.bool (writeAs B.now (wrDown B.now (syncD B.now B.disk j) i) (13 - (i : Int))).2) (h.ob n tBed (Bd.enc { B with disk:=wrDown B.now (syncD B.now B.disk j) (i + 1) })) rfl ⟨rfl,rfl⟩ rfl (by simp only [go_sem]; exact wr _ (by exact hl) _) ?_
    simp (maxSteps:=999999) (disch:=omega) only [go_sem]
    refine ih2 _ hlt2 ?_
    have e2 : (13 : Int) - (i : Int) - 1 = 13 - ((i : Int) + 1):=by omega
    simp only [go_sem,e2]
   ·obtain rfl : i = 14:=by omega
    simp (maxSteps:=999999) (disch:=omega) only [go_sem]
    refine ih _ hlt (step_all hp c) ?_
    simp only [go_sem,syncD]
 ·obtain rfl : j = 8:=by omega
  simp (maxSteps:=999999) (disch:=omega) only [go_sem]
  exact ⟨8,Nat.le_refl _,rfl,rfl,.inl rfl,hp⟩
end
theorem ent_addName (a : Img) (d s : Nat) (name : Str) (n : Nat) (d' s' : Nat) : (addName a d s name n).ent d' s' = if (d = d' ∧ s = s') ∧ d' < 3 ∧ s' < 4 then ⟨name,n,(a.ino n).stamp⟩ else a.ent d' s':=by
 rw [addName,ent_setIno,ent_setEnt]
section
variable {cx : Cx} {h : HP} {n : Nat} {B : Bd}
theorem Files0_ok {x : SStep} (hl : ∀ n,cx.prot.lets (.obj n) = true) (hB : h.look (.obj n) = some ⟨tBed,B.enc⟩)
  (hw : WF B.now) (h1 : x.name.size ≤ 9223372036854775807) (h2 : x.to.size ≤ 9223372036854775807) (h3 : x.text.size ≤ 9223372036854775807) :
  Ok tblE cx Fn.r_Bed_Files0 (St.enter [.ptr (.obj n) [] tBed,x.enc] h) fun v h'=>v = .int .i64 (doC B.fl x) ∧ h' = h.ob n tBed (Bd.enc { B with now:=(doF B.fl x).now,stamp:=(doF B.fl x).stamp }):=by
 rw [Ok_eq]
 have same : h.ob n tBed (Bd.enc ⟨B.now,B.disk,B.stamp,B.crashes,B.files,B.counts,B.datas⟩) = h:=ob_self hB
 simp (maxSteps:=999999) (disch:=omega) only [go_sem]
 refine W_callp rfl ⟨rfl,rfl⟩ (by simp only [go_sem]; exact StepFault_ok h1 h2 h3) ?_
 simp (maxSteps:=999999) (disch:=omega) only [go_sem]
 by_cases c0 : stepFault x = 0
 rotate_left
 ·simp (maxSteps:=999999) (disch:=omega) only [go_sem,c0]
  simp [doC,doF,c0,Bd.fl,same]
 obtain ⟨⟨k1,k6⟩,⟨d0,d3⟩,hn,hto,hp,htx⟩:=stepFault_zero c0
 simp (maxSteps:=999999) (disch:=omega) only [go_sem,c0]
 refine W_callp rfl ⟨rfl,rfl⟩ (by simp only [go_sem]; exact upE (up (SlotOf_ok (m:=B.now) (p:=.obj n) (q:=[0]) (below_obj _ _) (by rw [HP.push_rd_ext (below_obj _ _)]; exact rdB0 hB)))) ?_
 simp (maxSteps:=999999) (disch:=omega) only [go_sem]
 by_cases c1 : x.kind = 1
 ·simp (maxSteps:=999999) (disch:=omega) only [go_sem,c1]
  by_cases c2 : 0 ≤ slotOf B.now x.dir x.name
  ·simp (maxSteps:=999999) (disch:=omega) only [go_sem,c2]
   simp [doC,doF,makeC,c0,c1,c2,Bd.fl,same]
  simp (maxSteps:=999999) (disch:=omega) only [go_sem,c2]
  refine W_callp rfl ⟨rfl,rfl⟩ (by simp only [go_sem]; exact rFreeInode_ok (B:=B) (by simp only [go_sem,hB])) ?_
  simp (maxSteps:=999999) (disch:=omega) only [go_sem]
  rcases freeIno_cases B.now B.disk with e | ⟨i,i8,e,_⟩
  ·simp (maxSteps:=999999) (disch:=omega) only [go_sem,e]
   simp [doC,doF,makeC,c0,c1,c2,e,Bd.fl,same]
  have i0 : ¬(i : Int) < 0:=by omega
  simp (maxSteps:=999999) (disch:=omega) only [go_sem,e,i0]
  refine W_callp rfl ⟨rfl,rfl⟩ (by simp only [go_sem]; exact rroom_ok (B:=B) (by simp only [go_sem,hB])) ?_
  simp (maxSteps:=999999) (disch:=omega) only [go_sem]
  rcases room_cases B.now B.disk x.dir x.name with e2 | ⟨k,k4,e2,_,_,_,_,sd⟩
  ·simp (maxSteps:=999999) (disch:=omega) only [go_sem,e2]
   simp [doC,doF,makeC,c0,c1,c2,e,i0,e2,Bd.fl,same]
  have k0 : ¬(k : Int) < 0:=by omega
  have k0' : (0 : Int) ≤ k:=by omega
  have ef : freeSlot B.now B.disk x.dir = k:=by rw [← e2,room,if_neg (by omega)]
  simp (maxSteps:=999999) (disch:=omega) only [go_sem,e2,k0',hB,stV_ob (hl _)]
  refine W_callp rfl ⟨rfl,rfl⟩ (by simp only [go_sem]; exact upE (up (None_ok))) ?_
  simp (maxSteps:=999999) (disch:=omega) only [go_sem,hB,stV_ob (hl _),i8]
  rw [setIno_setIno,setIno_setIno]
  have add:=fun (cy : Cx) (hy : ∀ n,cy.prot.lets (.obj n) = true) (o : Own)=>radd_ok (cx:=cy) (h:=(h.ob n tBed (Bd.enc ⟨B.now.setIno i (newIno (IntKind.i64.wrap (B.stamp + 1))),B.disk,IntKind.i64.wrap (B.stamp + 1),B.crashes,B.files,B.counts,B.datas⟩)).push cx.lvl o) (n:=n) (B:=⟨B.now.setIno i (newIno (IntKind.i64.wrap (B.stamp + 1))),B.disk,IntKind.i64.wrap (B.stamp + 1),B.crashes,B.files,B.counts,B.datas⟩) (d:=x.dir) (s:=x.name) (i:=i) (k:=k) hy (by simp only [go_sem,]) k4 ef d0 d3 i8
  simp only [go_sem] at add
  refine W_callh (v:=.tup .unit) (h.ob n tBed (Bd.enc ⟨addName (B.now.setIno i (newIno (IntKind.i64.wrap (B.stamp + 1)))) x.dir.toNat k x.name i,B.disk,IntKind.i64.wrap (B.stamp + 1),B.crashes,B.files,B.counts,B.datas⟩)) rfl ⟨rfl,rfl⟩ rfl (by simp only [go_sem]; exact add _ (by exact hl) _) ?_
  simp (maxSteps:=999999) (disch:=omega) only [go_sem]
  simp [doC,doF,makeC,makeF,c0,c1,c2,e,i0,e2,k0,Bd.fl]
 simp (maxSteps:=999999) (disch:=omega) only [go_sem,c1]
 rcases slotOf_cases B.now x.dir x.name with e | ⟨s,s4,e,_,_,hnm,hne⟩
 ·simp (maxSteps:=999999) (disch:=omega) only [go_sem,e]
  simp [doC,doF,c0,c1,e,Bd.fl,same]
 have s0 : ¬(s : Int) < 0:=by omega
 have i0:=(hw.1 x.dir.toNat s).1
 have i8:=(hw.1 x.dir.toNat s).2
 have n8 : (B.now.ent x.dir.toNat s).ino.toNat < 8:=by omega
 have ni : (((B.now.ent x.dir.toNat s).ino.toNat : Nat) : Int) = (B.now.ent x.dir.toNat s).ino:=by omega
 simp (maxSteps:=999999) (disch:=omega) only [go_sem,e,s0,hB]
 by_cases c2 : x.kind = 2
 ·simp (maxSteps:=999999) (disch:=omega) only [go_sem,c2,hB]
  refine W_callp rfl ⟨rfl,rfl⟩ (by simp only [go_sem]; exact upE (up (SlotOf_ok (m:=B.now) (p:=.obj n) (q:=[0]) (below_obj _ _) (by rw [HP.push_rd_ext (below_obj _ _)]; exact rdB0 hB)))) ?_
  simp (maxSteps:=999999) (disch:=omega) only [go_sem]
  by_cases cs : 0 ≤ slotOf B.now x.toDir x.to
  ·simp (maxSteps:=999999) (disch:=omega) only [go_sem,cs]
   simp [doC,doF,enterC,c0,c1,c2,e,s0,cs,Bd.fl,same]
  simp (maxSteps:=999999) (disch:=omega) only [go_sem,cs]
  refine W_callp rfl ⟨rfl,rfl⟩ (by simp only [go_sem]; exact rroom_ok (B:=B) (by simp only [go_sem,hB])) ?_
  simp (maxSteps:=999999) (disch:=omega) only [go_sem]
  rcases room_cases B.now B.disk x.toDir x.to with e2 | ⟨k,k4,e2,t0,t3,kn,_,sd⟩
  ·simp (maxSteps:=999999) (disch:=omega) only [go_sem,e2]
   simp [doC,doF,enterC,c0,c1,c2,e,s0,cs,e2,Bd.fl,same]
  have k0 : ¬(k : Int) < 0:=by omega
  have k0' : (0 : Int) ≤ k:=by omega
  have ef : freeSlot B.now B.disk x.toDir = k:=by rw [← e2,room,if_neg (by omega)]
  have add:=fun (cy : Cx) (hy : ∀ n,cy.prot.lets (.obj n) = true) (o : Own)=>radd_ok (cx:=cy) (h:=h.push cx.lvl o) (n:=n) (B:=B) (d:=x.toDir) (s:=x.to) (i:=(B.now.ent x.dir.toNat s).ino.toNat) (k:=k) hy (by simp only [go_sem,hB]) k4 ef t0 t3 n8
  simp only [ni,go_sem] at add
  simp (maxSteps:=999999) (disch:=omega) only [go_sem,e2,k0',hB]
  refine W_callh (v:=.tup .unit) (h.ob n tBed (Bd.enc { B with now:=addName B.now x.toDir.toNat k x.to (B.now.ent x.dir.toNat s).ino.toNat })) rfl ⟨rfl,rfl⟩ rfl (by simp only [go_sem]; exact add _ (by exact hl) _) ?_
  simp (maxSteps:=999999) (disch:=omega) only [go_sem,c2]
  simp [doC,doF,enterC,enterA,c0,c1,c2,e,s0,cs,e2,k0,Bd.fl]
 by_cases c4 : x.kind = 4
 ·simp (maxSteps:=999999) (disch:=omega) only [go_sem,c2,c4,hB]
  refine W_callp rfl ⟨rfl,rfl⟩ (by simp only [go_sem]; exact upE (up (SlotOf_ok (m:=B.now) (p:=.obj n) (q:=[0]) (below_obj _ _) (by rw [HP.push_rd_ext (below_obj _ _)]; exact rdB0 hB)))) ?_
  simp (maxSteps:=999999) (disch:=omega) only [go_sem]
  by_cases cs : 0 ≤ slotOf B.now x.toDir x.to
  ·simp (maxSteps:=999999) (disch:=omega) only [go_sem,cs]
   simp [doC,doF,enterC,c0,c1,c2,c4,e,s0,cs,Bd.fl,same]
  simp (maxSteps:=999999) (disch:=omega) only [go_sem,cs]
  refine W_callp rfl ⟨rfl,rfl⟩ (by simp only [go_sem]; exact rroom_ok (B:=B) (by simp only [go_sem,hB])) ?_
  simp (maxSteps:=999999) (disch:=omega) only [go_sem]
  rcases room_cases B.now B.disk x.toDir x.to with e2 | ⟨k,k4,e2,t0,t3,kn,_,sd⟩
  ·simp (maxSteps:=999999) (disch:=omega) only [go_sem,e2]
   simp [doC,doF,enterC,c0,c1,c2,c4,e,s0,cs,e2,Bd.fl,same]
  have k0 : ¬(k : Int) < 0:=by omega
  have k0' : (0 : Int) ≤ k:=by omega
  have ef : freeSlot B.now B.disk x.toDir = k:=by rw [← e2,room,if_neg (by omega)]
  have add:=fun (cy : Cx) (hy : ∀ n,cy.prot.lets (.obj n) = true) (o : Own)=>radd_ok (cx:=cy) (h:=h.push cx.lvl o) (n:=n) (B:=B) (d:=x.toDir) (s:=x.to) (i:=(B.now.ent x.dir.toNat s).ino.toNat) (k:=k) hy (by simp only [go_sem,hB]) k4 ef t0 t3 n8
  simp only [ni,go_sem] at add
  simp (maxSteps:=999999) (disch:=omega) only [go_sem,e2,k0',hB]
  refine W_callh (v:=.tup .unit) (h.ob n tBed (Bd.enc { B with now:=addName B.now x.toDir.toNat k x.to (B.now.ent x.dir.toNat s).ino.toNat })) rfl ⟨rfl,rfl⟩ rfl (by simp only [go_sem]; exact add _ (by exact hl) _) ?_
  have hne2 : ¬((x.toDir.toNat = x.dir.toNat ∧ k = s) ∧ x.dir.toNat < 3 ∧ s < 4):=by
   rintro ⟨⟨e3,e4⟩,_⟩
   rw [e3,e4,hnm] at kn
   exact hne kn
  have same_ent : (addName B.now x.toDir.toNat k x.to (B.now.ent x.dir.toNat s).ino.toNat).ent x.dir.toNat s = B.now.ent x.dir.toNat s:=by rw [ent_addName,if_neg hne2]
  have eF : dropName (addName B.now x.toDir.toNat k x.to (B.now.ent x.dir.toNat s).ino.toNat) x.dir.toNat s = (doF B.fl x).now:=by
   simp [doC,doF,enterC,enterA,c0,c1,c2,c4,e,s0,cs,e2,k0,Bd.fl]
  have eS : (doF B.fl x).stamp = B.stamp:=by simp [doC,doF,enterC,enterA,c0,c1,c2,c4,e,s0,cs,e2,k0,Bd.fl]
  have eC : doC B.fl x = 0:=by simp [doC,doF,enterC,enterA,c0,c1,c2,c4,e,s0,cs,e2,k0,Bd.fl]
  rw [eS,eC,← eF,dropName]
  simp only [same_ent]
  generalize addName B.now x.toDir.toNat k x.to (B.now.ent x.dir.toNat s).ino.toNat = A
  simp (maxSteps:=999999) (disch:=omega) only [go_sem,c2,c4,hB,stV_ob (hl _),n8]
  by_cases cz : IntKind.i64.wrap ((A.ino (B.now.ent x.dir.toNat s).ino.toNat).links - 1) = 0
  ·simp (maxSteps:=999999) (disch:=omega) only [go_sem,cz]
   refine W_callp rfl ⟨rfl,rfl⟩ (by simp only [go_sem]; exact upE (up (None_ok))) ?_
   simp (maxSteps:=999999) (disch:=omega) only [go_sem,hB,stV_ob (hl _),n8,cz,setIno_setIno]
  ·simp (maxSteps:=999999) (disch:=omega) only [go_sem,cz,setIno_setIno]
 by_cases c3 : x.kind = 3
 ·simp (maxSteps:=999999) (disch:=omega) only [go_sem,c2,c4,c3,hB,stV_ob (hl _),n8]
  by_cases cz : IntKind.i64.wrap ((B.now.ino (B.now.ent x.dir.toNat s).ino.toNat).links - 1) = 0
  ·simp (maxSteps:=999999) (disch:=omega) only [go_sem,cz]
   refine W_callp rfl ⟨rfl,rfl⟩ (by simp only [go_sem]; exact upE (up (None_ok))) ?_
   simp (maxSteps:=999999) (disch:=omega) only [go_sem,hB,stV_ob (hl _),n8,cz]
   simp [doC,doF,dropName,c0,c1,c2,c3,c4,e,s0,Bd.fl,cz,setIno_setIno]
  ·simp (maxSteps:=999999) (disch:=omega) only [go_sem,cz]
   simp [doC,doF,dropName,c0,c1,c2,c3,c4,e,s0,Bd.fl,cz,setIno_setIno]
 by_cases c5 : x.kind = 5
 ·have hp0:=(hp (.inl c5)).1
  have hp2:=(hp (.inl c5)).2
  have p2' : x.p.toNat < 2:=by omega
  have q9:=(hw.2 (B.now.ent x.dir.toNat s).ino.toNat x.p.toNat).2
  simp (maxSteps:=999999) (disch:=omega) only [go_sem,c2,c4,c3,c5,hB,stV_ob (hl _),n8]
  by_cases cq : (B.now.ino (B.now.ent x.dir.toNat s).ino.toNat).prt x.p.toNat < 0
  ·simp (maxSteps:=999999) (disch:=omega) only [go_sem,cq]
   refine W_callp rfl ⟨rfl,rfl⟩ (by simp only [go_sem]; exact rFreeData_ok (B:=B) (by simp only [go_sem,hB])) ?_
   simp (maxSteps:=999999) (disch:=omega) only [go_sem]
   rcases freeDat_cases B.now B.disk with ed | ⟨k,k9,ed,_⟩
   ·simp (maxSteps:=999999) (disch:=omega) only [go_sem,ed]
    simp [doC,doF,putC,putA,c0,c1,c2,c3,c4,c5,e,s0,Bd.fl,cq,ed,same]
   ·have k0 : ¬(k : Int) < 0:=by omega
    simp (maxSteps:=999999) (disch:=omega) only [go_sem,ed,k0,hB,stV_ob (hl _),n8,p2']
    simp [doC,doF,putC,putA,c0,c1,c2,c3,c4,c5,e,s0,Bd.fl,cq,ed,k0]
  ·simp (maxSteps:=999999) (disch:=omega) only [go_sem,cq,hB,stV_ob (hl _),n8,p2']
   simp [doC,doF,putC,putA,c0,c1,c2,c3,c4,c5,e,s0,Bd.fl,cq]
 have c6 : x.kind = 6:=by omega
 have hp0:=(hp (.inr c6)).1
 have hp2:=(hp (.inr c6)).2
 simp (maxSteps:=999999) (disch:=omega) only [go_sem,c2,c4,c3,c5,c6,hB,stV_ob (hl _),n8]
 simp [doC,doF,c0,c1,c2,c3,c4,c5,e,s0,Bd.fl]
end
structure Fr (h h' : HP) (S : List Nat) : Prop where
 stk : h'.stk = h.stk
 arg : h'.arg = h.arg
 next : h.next ≤ h'.next
 same : ∀ n,n < h.next → n ∉ S → h'.obj n = h.obj n
theorem Fr.refl (h : HP) (S : List Nat) : Fr h h S:=⟨rfl,rfl,Nat.le_refl _,fun _ _ _=>rfl⟩
theorem Fr.trans {h h1 h2 : HP} {S : List Nat} (a : Fr h h1 S) (b : Fr h1 h2 S) : Fr h h2 S :=
 ⟨b.stk.trans a.stk,b.arg.trans a.arg,Nat.le_trans a.next b.next,fun n hn hs=>(b.same n (by have:=a.next; omega) hs).trans (a.same n hn hs)⟩
theorem Fr.ob {h : HP} {n : Nat} {t : Ty} {v : AV} {S : List Nat} (hn : n ∈ S) : Fr h (h.ob n t v) S :=
 ⟨rfl,rfl,Nat.le_refl _,fun k _ hs=>obj_ob_ne fun e=>hs (e ▸ hn)⟩
theorem Fr.nw {h : HP} {t : Ty} {v : AV} {S : List Nat} : Fr h (h.nw t v) S :=
 ⟨rfl,rfl,Nat.le_succ _,fun k hk _=>by simp [HP.nw,HP.ob,HP.set]; omega⟩
theorem Fr.mono {h h' : HP} {S S' : List Nat} (a : Fr h h' S) (hs : ∀ n ∈ S,n < h.next → n ∈ S') : Fr h h' S' :=
 ⟨a.stk,a.arg,a.next,fun n hn hn'=>a.same n hn fun e=>hn' (hs n e hn)⟩
theorem Fr.look {h h' : HP} {S : List Nat} (a : Fr h h' S) {n : Nat} {b : Option Blk} (hn : n < h.next) (hs : n ∉ S) (e : h.look (.obj n) = b) : h'.look (.obj n) = b:=by
 rw [← e]; exact a.same n hn hs
theorem look_nn1 {h : HP} {t u : Ty} {v w : AV} : ((h.nw t v).nw u w).look (.obj (h.next + 1)) = some ⟨u,w⟩:=look_nw (h:=h.nw t v)
theorem look_nn0 {h : HP} {t u : Ty} {v w : AV} : ((h.nw t v).nw u w).look (.obj h.next) = some ⟨t,v⟩:=by
 rw [look_nw_ne (by show ¬h.next = h.next + 1; omega),look_nw]
theorem ob_nn1 {h : HP} {t u u' : Ty} {v w w' : AV} : ((h.nw t v).nw u w).ob (h.next + 1) u' w' = (h.nw t v).nw u' w':=nw_ob (h:=h.nw t v)
section
variable {T : Nat → Option MFun} {cx : Cx} {k : List Item} {kill : List Nat} {r : List MOp} {sl : Slots} {own : Own} {h : HP} {Q : St → Prop}
theorem W_callF {S : List Nat} {R : AV → HP → Prop} {prot : Bool} {f : Nat} {args : List Opd} {d : Option Nat} {fn : MFun} (hf : T f = some fn) (hp : fn.params = args.length ∧ fn.nfree = 0)
  (hc : Ok T (St.callCx ⟨sl,own,h⟩ cx prot) fn (St.enter (args.map (St.opd ⟨sl,own,h⟩)) (h.push cx.lvl own)) fun v' h'=>Fr (h.push cx.lvl own) h' S ∧ R v' h')
  (hR : ∀ v h1,R v (HP.push h1 cx.lvl own) → R v h1)
  (hq : ∀ v h1,Fr h h1 S → R v h1 → W T cx (.ops r kill :: k) (St.setd ⟨sl,own,h1⟩ d v) Q) :
  W T cx (.ops (⟨d,.call prot [] f args,none⟩ :: r) kill :: k) ⟨sl,own,h⟩ Q:=by
 refine W_callR (R:=fun v h1=>Fr h h1 S ∧ R v h1) hf hp (hc.mono fun v h' e=>?_) fun v h1 e=>hq v h1 e.1 e.2
 obtain ⟨e1,e2⟩:=e
 have hh : h' = HP.push ⟨h.stk,h'.obj,h'.next,h'.arg⟩ cx.lvl own:=by
  have:=e1.stk
  cases h'
  simp only at this
  subst this
  rfl
 refine ⟨⟨h.stk,h'.obj,h'.next,h'.arg⟩,hh,rfl,⟨rfl,e1.arg,e1.next,e1.same⟩,hR _ _ (hh ▸ e2)⟩
end
def maxSt (m : Img) : Nat → Int
 | 0=>0
 | k + 1=>if maxSt m k < (m.ino k).stamp then (m.ino k).stamp else maxSt m k
@[go_sem] theorem maxV_int (k : IntKind) (a b : Int) : maxV (.int k a) (.int k b) = some (.int k (if a < b then b else a)):=by simp [maxV]
@[go_sem] theorem fits_tInodes (v : Vector Ino 8) : (tInodes.fits (encV Ino.enc v) = true) = True:=fits_inodes v
section
variable {cx : Cx} {h : HP} {m : Img}
theorem SNew_ok : Ok tblE cx Fn.soft_New (St.enter [] h) fun v h'=>v = .ptr (.obj (h.next + 1)) [] tFiles ∧ h' = (h.nw tCache (encC .blank .blank)).nw tFiles (encF h.next 0):=by
 rw [Ok_eq]
 simp (maxSteps:=999999) (disch:=omega) only [go_sem]
 refine W_callh (v:=.ptr (.obj h.next) [] tCache) (h.nw tCache (encC .blank .blank)) rfl ⟨rfl,rfl⟩ rfl (by simp only [go_sem]; exact upE CNew_ok) ?_
 simp (maxSteps:=999999) (disch:=omega) only [go_sem]
theorem SOf_no (hs : m.small) (hc : ¬check m = 0) : Ok tblE cx Fn.soft_Of (St.enter [m.enc] h) fun v h'=>v = .nilp ∧ h' = h:=by
 rw [Ok_eq]
 simp (maxSteps:=999999) (disch:=omega) only [go_sem]
 refine W_callp rfl ⟨rfl,rfl⟩ (by simp only [go_sem]; exact upE (COf_no hs hc)) ?_
 simp (maxSteps:=999999) (disch:=omega) only [go_sem]
theorem SOf_ok (hl : ∀ n,h.next ≤ n → cx.prot.lets (.obj n) = true) (hs : m.small) (hc : check m = 0) : Ok tblE cx Fn.soft_Of (St.enter [m.enc] h) fun v h' =>
  v = .ptr (.obj (h.next + 1)) [] tFiles ∧ h' = (h.nw tCache (encC m m)).nw tFiles (encF h.next (maxSt m 8)):=by
 rw [Ok_eq]
 simp (maxSteps:=999999) (disch:=omega) only [go_sem]
 refine W_callh (v:=.ptr (.obj h.next) [] tCache) (h.nw tCache (encC m m)) rfl ⟨rfl,rfl⟩ rfl (by simp only [go_sem]; exact upE (COf_ok hs hc)) ?_
 simp (maxSteps:=999999) (disch:=omega) only [go_sem]
 refine W_for 8 (fun k=>⟨[(4,.ptr (.obj (h.next + 1)) [] tFiles),(15,encV Ino.enc m.inode),(16,.int .i64 k)],[],(h.nw tCache (encC m m)).nw tFiles (encF h.next (maxSt m k))⟩) (by simp only [go_sem] <;> rfl) fun k hk ih=>?_
 by_cases hlt : k < 8
 ·simp (maxSteps:=999999) (disch:=omega) only [go_sem,hlt,look_nn1,stV_ob (hl (h.next + 1) (by omega)),ob_nn1]
  refine ih _ hlt ?_
  simp only [go_sem,maxSt]
 ·obtain rfl : k = 8:=by omega
  simp (maxSteps:=999999) (disch:=omega) only [go_sem]
end
def syncK (a b : Img) : Nat:=if findN 8 (fun k=>decide (a = syncD a b k)) < 0 then 8 else (findN 8 (fun k=>decide (a = syncD a b k))).toNat
def syncTo (a b : Img) : Img:=syncD a b (syncK a b)
theorem syncK_eq {a b : Img} {k : Nat} (h8 : k ≤ 8) (h : k = 8 ∨ a = syncD a b k) (hn : ∀ i,i < k → ¬a = syncD a b i) : k = syncK a b:=by
 unfold syncK
 rcases h with rfl | h
 ·rw [findN_none fun i hi=>by simp [hn i hi]]; rfl
 ·by_cases e : k = 8
  ·subst e; rw [findN_none fun i hi=>by simp [hn i hi]]; rfl
  ·rw [findN_at (j:=k) (fun i hi=>by simp [hn i hi]) (by simpa using h) (by omega),if_neg (by omega)]; simp
structure Lf where
 fl : Fl
 a : Int
 b : Int
 c : Int
 n : Int
def Lf.new : Lf:=⟨⟨.blank,.blank,0⟩,0,0,0,0⟩
def lifeC (L : Lf) (x : SStep) : Int :=
 if x.kind = 7 then (if (writeAs L.fl.now L.fl.disk x.p).2 = true then 0 else 1) else
 if x.kind = 8 then 0 else if x.kind = 9 then check L.fl.disk else doC L.fl x
def crashF (L : Lf) : Lf:=if check L.fl.disk = 0 then
  ⟨⟨mended L.fl.disk,mended L.fl.disk,maxSt (mended L.fl.disk) 8⟩,lostF L.fl.disk 8,lostC L.fl.disk 8,lostD (mendI L.fl.disk 8) 9,IntKind.i64.wrap (L.n + 1)⟩ else L
def lifeF (L : Lf) (x : SStep) : Lf :=
 if x.kind = 7 then { L with fl:={ L.fl with disk:=(writeAs L.fl.now L.fl.disk x.p).1 } } else
 if x.kind = 8 then { L with fl:={ L.fl with disk:=syncTo L.fl.now L.fl.disk } } else
 if x.kind = 9 then crashF L else { L with fl:=doF L.fl x }
theorem small_setEnt {m : Img} (h : m.small) {d s : Nat} {y : Ent} (hy : y.name.size ≤ 100000) : (m.setEnt d s y).small:=fun d' s'=>by
 rw [ent_setEnt]; split
 ·exact hy
 ·exact h d' s'
theorem small_setIno {m : Img} (h : m.small) {n : Nat} {y : Ino} : (m.setIno n y).small:=h
theorem small_setDat {m : Img} (h : m.small) {n : Nat} {y : Dat} : (m.setDat n y).small:=h
theorem isName_size {s : Str} (h : isName s = true) : s.size ≤ 100000:=by
 simp [isName] at h; omega
theorem small_addName {a : Img} (h : a.small) {d s n : Nat} {name : Str} (hn : name.size ≤ 100000) : (addName a d s name n).small:=small_setIno (small_setEnt h hn)
theorem small_dropName {a : Img} (h : a.small) {d s : Nat} : (dropName a d s).small:=by
 unfold dropName
 dsimp only
 split <;> exact small_setIno (small_setEnt h (by decide))
theorem small_enterA {a b : Img} (h : a.small) {d : Int} {s : Str} {n : Nat} (hn : s.size ≤ 100000) : (enterA a b d s n).small:=by
 unfold enterA
 split
 ·exact small_addName h hn
 ·exact h
theorem small_doF {F : Fl} (h : F.now.small) {x : SStep} : (doF F x).now.small:=by
 unfold doF
 split
 ·exact h
 rename_i hc
 have c0 : stepFault x = 0:=by
  by_cases e : stepFault x = 0
  ·exact e
  ·exfalso; apply hc; simp only [doC]; rw [if_pos e]; exact e
 obtain ⟨⟨k1,k6⟩,_,hn,hto,_⟩:=stepFault_zero c0
 split
 ·unfold makeF
  split
  ·exact small_addName (small_setIno h) (isName_size hn)
  ·exact h
 dsimp only
 split
 ·rename_i k2; exact small_enterA h (isName_size (hto (.inl k2)).2)
 split
 ·rename_i k4; exact small_dropName (small_enterA h (isName_size (hto (.inr k4)).2))
 split
 ·exact small_dropName h
 split
 ·unfold putA
  split
  ·split
   ·exact h
   ·exact small_setDat (small_setIno h)
  ·exact small_setDat h
 ·exact small_setIno h
theorem small_wrDir {a b : Img} (ha : a.small) (hb : b.small) (d : Nat) : ∀ k,(wrDir a b d k).small
 | 0=>hb
 | k + 1=>by
  have ih:=small_wrDir ha hb d k
  refine small_setEnt ih ?_
  rcases entryAs_cases a (wrDir a b d k) d k with e | ⟨_,e,_⟩ | ⟨_,e,_⟩ <;> rw [e]
  ·exact ih d k
  ·exact ha d k
  ·decide
theorem small_writeAs {a b : Img} (ha : a.small) (hb : b.small) (x : Int) : (writeAs a b x).1.small:=by
 obtain ⟨n,hn,e⟩ | ⟨n,hn,e⟩ | ⟨n,hn,e⟩ | e:=blockOf_cases x
 ·rw [writeAs_i e]; intro d s; show ((wrInodes a b n 4).ent d s).name.size ≤ _; rw [wrInodes_ent]; exact hb d s
 ·rw [writeAs_d e]; exact small_wrDir ha hb n 4
 ·rw [writeAs_a e]; exact hb
 ·rw [writeAs_n e]; exact hb
theorem small_wrDown {a b : Img} (ha : a.small) (hb : b.small) : ∀ k,(wrDown a b k).small
 | 0=>hb
 | k + 1=>small_writeAs ha (small_wrDown ha hb k) _
theorem small_syncD {a b : Img} (ha : a.small) (hb : b.small) : ∀ k,(syncD a b k).small
 | 0=>hb
 | k + 1=>small_wrDown ha (small_syncD ha hb k) 14
theorem WF_check {m : Img} (hc : check m = 0) : WF m:=by
 refine ⟨fun d s=>?_,fun n p=>?_⟩
 ·by_cases h : d < 3 ∧ s < 4
  ·rcases entry_parts ((check_parts hc).1 d h.1 s h.2) with e | ⟨_,_,_,a4,a5,_⟩
   ·rw [e]; exact ⟨by decide,by decide⟩
   ·exact ⟨a4,a5⟩
  ·have : m.ent d s = Ent.zero:=by simp only [Img.ent]; rw [dif_neg h]
   rw [this]; exact ⟨by decide,by decide⟩
 ·by_cases hn : n < 8
  ·by_cases hp : p < 2
   ·cases hl : (m.ino n).live with
    | true =>
     have:=part_dat ((ino_parts hc hn hl).2.2 p hp)
     omega
    | false=>rw [dead_none hc hn hl]; exact prt_none p
   ·simp [Ino.prt,hp]
  ·have : m.ino n = Ino.zero:=by simp only [Img.ino]; rw [dif_neg hn]
   rw [this]
   by_cases hp : p < 2
   ·simp [Ino.prt,Ino.zero,hp]
   ·simp [Ino.prt,hp]
structure Inv0 (F : Fl) : Prop where
 wf : WF F.now
 sn : F.now.small
 sd : F.disk.small
theorem doF_disk (F : Fl) (x : SStep) : (doF F x).disk = F.disk:=by
 unfold doF makeF
 split
 ·rfl
 split
 ·split <;> rfl
 dsimp only
 split
 ·rfl
 split
 ·rfl
 split
 ·rfl
 split <;> rfl
theorem Inv0.doF {F : Fl} (h : Inv0 F) (x : SStep) : Inv0 (doF F x):=⟨WF_doF h.wf x,small_doF h.sn,by rw [doF_disk]; exact h.sd⟩
theorem Inv0.lifeF {L : Lf} (h : Inv0 L.fl) (x : SStep) : Inv0 (lifeF L x).fl:=by
 unfold Go.Mini.lifeF
 split
 ·exact ⟨h.wf,h.sn,small_writeAs h.sn h.sd _⟩
 split
 ·exact ⟨h.wf,h.sn,small_syncD h.sn h.sd _⟩
 split
 ·unfold crashF
  split
  ·rename_i hc
   exact ⟨WF_check (mended_check hc),mended_small h.sd,mended_small h.sd⟩
  ·exact h
 ·exact h.doF x
def encLi (f : Nat) (a b c n : Int) : AV:=.cons (.ptr (.obj f) [] tFiles) (.cons (encLost a b c) (.cons (.int .i64 n) .unit))
@[go_sem] theorem at_Li0 (f : Nat) (a b c n : Int) : (encLi f a b c n).at [0] = some (.ptr (.obj f) [] tFiles):=rfl
@[go_sem] theorem at_Li1 (f : Nat) (a b c n : Int) : (encLi f a b c n).at [1] = some (encLost a b c):=rfl
@[go_sem] theorem at_Li2 (f : Nat) (a b c n : Int) : (encLi f a b c n).at [2] = some (.int .i64 n):=rfl
@[go_sem] theorem put_Li0 (f g : Nat) (a b c n : Int) : (encLi f a b c n).put [0] (.ptr (.obj g) [] tFiles) = some (encLi g a b c n):=rfl
@[go_sem] theorem put_Li1 (f : Nat) (a b c n a' b' c' : Int) : (encLi f a b c n).put [1] (encLost a' b' c') = some (encLi f a' b' c' n):=rfl
@[go_sem] theorem put_Li2 (f : Nat) (a b c n n' : Int) : (encLi f a b c n).put [2] (.int .i64 n') = some (encLi f a b c n'):=rfl
@[go_sem] theorem field_Li0 : tLife.field 0 = some tP:=rfl
@[go_sem] theorem field_Li1 : tLife.field 1 = some tLost:=rfl
@[go_sem] theorem field_Li2 : tLife.field 2 = some tI:=rfl
@[go_sem] theorem fill_Li (f : Nat) : fill tLife tLife.zero [(0,.ptr (.obj f) [] tFiles)] = some (encLi f 0 0 0 0):=rfl
@[go_sem] theorem fits_Li (f : Nat) (a b c n : Int) : (tLife.fits (encLi f a b c n) = true) = True:=eq_true rfl
section
variable {T : Nat → Option MFun} {cx : Cx} {k : List Item} {kill : List Nat} {r : List MOp} {sl : Slots} {own : Own} {h : HP} {Q : St → Prop}
@[go_sem] theorem WBX_life {f : Nat} {a b c n : Int} {d : Nat} : WBX T cx tLife (encLi f a b c n) d r kill k sl own h Q = W T cx (.ops r kill :: k) ⟨sl.set d (.ptr (.obj h.next) [] tLife),own,h.nw tLife (encLi f a b c n)⟩ Q:=by
 simp only [WBX,fits_Li,true_and]
@[go_sem] theorem W_boxLife {d : Nat} {x : Opd} : W T cx (.ops (⟨some d,.box true tLife x,none⟩ :: r) kill :: k) ⟨sl,own,h⟩ Q = WBX T cx tLife (St.opd ⟨sl,own,h⟩ x) d r kill k sl own h Q:=W_boxX
end
structure LifeAt (h : HP) (p f c : Nat) (L : Lf) : Prop where
 li : h.look (.obj p) = some ⟨tLife,encLi f L.a L.b L.c L.n⟩
 fi : h.look (.obj f) = some ⟨tFiles,encF c L.fl.stamp⟩
 ca : h.look (.obj c) = some ⟨tCache,encC L.fl.now L.fl.disk⟩
 pf : ¬p = f
 fc : ¬f = c
 pc : ¬p = c
 pn : p < h.next
 fn : f < h.next
 cn : c < h.next
section
variable {cx : Cx} {h : HP} {p f c : Nat} {L : Lf} {a b : Img}
theorem LNew_ok : Ok tblE cx Fn.life_New (St.enter [] h) fun v h'=>v = .ptr (.obj (h.next + 2)) [] tLife ∧ h' = ((h.nw tCache (encC .blank .blank)).nw tFiles (encF h.next 0)).nw tLife (encLi (h.next + 1) 0 0 0 0):=by
 rw [Ok_eq]
 simp (maxSteps:=999999) (disch:=omega) only [go_sem]
 refine W_callh (v:=.ptr (.obj (h.next + 1)) [] tFiles) ((h.nw tCache (encC .blank .blank)).nw tFiles (encF h.next 0)) rfl ⟨rfl,rfl⟩ rfl (by simp only [go_sem]; exact SNew_ok) ?_
 simp (maxSteps:=999999) (disch:=omega) only [go_sem]
theorem eSync (hl : ∀ n,cx.prot.lets (.obj n) = true) (hC : h.look (.obj c) = some ⟨tCache,encC a b⟩) : Ok tblE cx Fn.cache_Cache_Sync (St.enter [.ptr (.obj c) [] tCache] h) fun v h'=>v = .int .i64 (syncK a b) ∧ h' = h.ob c tCache (encC a (syncTo a b)):=by
 have:=upE (CSync_ok (h:=h) (n:=c) (a:=a) (b:=b) (hl c))
 rw [cs_ob,ob_self hC] at this
 refine this.mono fun v h' e=>?_
 obtain ⟨k,h8,rfl,rfl,hk,hn⟩:=e
 obtain rfl:=syncK_eq h8 hk hn
 exact ⟨rfl,rfl⟩
theorem eWrite {x : Int} (hl : ∀ n,cx.prot.lets (.obj n) = true) (hC : h.look (.obj c) = some ⟨tCache,encC a b⟩) : Ok tblE cx Fn.cache_Cache_Write (St.enter [.ptr (.obj c) [] tCache,.int .i64 x] h) fun v h'=>v = .bool (writeAs a b x).2 ∧ h' = h.ob c tCache (encC a (writeAs a b x).1) :=
 upE (CWrite_ok hC (hl c))
theorem Crashes_ok (hA : LifeAt h p f c L) : Ok tblE cx Fn.life_Life_Crashes (St.enter [.ptr (.obj p) [] tLife] h) fun v h'=>v = .int .i64 L.n ∧ h' = h:=by
 rw [Ok_eq]
 simp (maxSteps:=999999) (disch:=omega) only [go_sem,hA.li]
theorem Lost_ok (hA : LifeAt h p f c L) : Ok tblE cx Fn.life_Life_Lost (St.enter [.ptr (.obj p) [] tLife] h) fun v h'=>v = encLost L.a L.b L.c ∧ h' = h:=by
 rw [Ok_eq]
 simp (maxSteps:=999999) (disch:=omega) only [go_sem,hA.li]
end
theorem look_nn_lt {h : HP} {p : Nat} {t u : Ty} {v w : AV} (e : p < h.next) : ((h.nw t v).nw u w).look (.obj p) = h.look (.obj p):=by
 rw [look_nw_ne (by show ¬p = h.next + 1; omega),look_nw_lt e]
theorem mendV_of {m : Img} (hc : check m = 0) : mendV m = mended m:=by simp [mendV,hc]
theorem mendA_of {m : Img} (hc : check m = 0) : mendA m = lostF m 8:=by simp [mendA,hc]
theorem mendB_of {m : Img} (hc : check m = 0) : mendB m = lostC m 8:=by simp [mendB,hc]
theorem mendC_of {m : Img} (hc : check m = 0) : mendC m = lostD (mendI m 8) 9:=by simp [mendC,hc]
def LifeTo (h h' : HP) (p f c : Nat) (L : Lf) : Prop:=∃ f' c',LifeAt h' p f' c' L ∧ ((f' = f ∧ c' = c) ∨ (h.next ≤ f' ∧ h.next ≤ c'))
theorem LifeAt.pop {h : HP} {p f c l : Nat} {o : Own} {L : Lf} (a : LifeAt (h.push l o) p f c L) : LifeAt h p f c L:=⟨a.li,a.fi,a.ca,a.pf,a.fc,a.pc,a.pn,a.fn,a.cn⟩
theorem LifeAt.push {h : HP} {p f c l : Nat} {o : Own} {L : Lf} (a : LifeAt h p f c L) : LifeAt (h.push l o) p f c L:=⟨a.li,a.fi,a.ca,a.pf,a.fc,a.pc,a.pn,a.fn,a.cn⟩
theorem LifeTo.pop {h h1 : HP} {p f c l l' : Nat} {o o' : Own} {L : Lf} (a : LifeTo (h.push l' o') (h1.push l o) p f c L) : LifeTo h h1 p f c L:=by
 obtain ⟨f',c',a,b⟩:=a
 exact ⟨f',c',a.pop,b⟩
theorem LifeTo.push {h h1 : HP} {p f c l : Nat} {o : Own} {L : Lf} (a : LifeTo h h1 p f c L) : LifeTo (h.push l o) h1 p f c L:=a
section
variable {cx : Cx} {h : HP} {p f c : Nat} {L : Lf}
theorem LifeAt.setFl (hA : LifeAt h p f c L) (F : Fl) : LifeAt ((h.ob f tFiles (encF c F.stamp)).ob c tCache (encC F.now F.disk)) p f c { L with fl:=F }:=by
 have h1:=hA.pf
 have h2:=hA.fc
 have h3:=hA.pc
 refine ⟨?_,?_,look_ob,h1,h2,h3,hA.pn,hA.fn,hA.cn⟩
 ·rw [look_ob_ne h3,look_ob_ne h1]; exact hA.li
 ·rw [look_ob_ne h2]; exact look_ob
theorem Fr_setFl {v w : AV} : Fr h ((h.ob f tFiles v).ob c tCache w) [p,f,c]:=(Fr.ob (by simp)).trans (Fr.ob (by simp))
theorem LifeAt.setCa (hA : LifeAt h p f c L) (b : Img) : LifeAt (h.ob c tCache (encC L.fl.now b)) p f c { L with fl:={ L.fl with disk:=b } }:=by
 have:=hA.setFl { L.fl with disk:=b }
 rw [ob_self (v:=encF c L.fl.stamp) hA.fi] at this
 exact this
theorem crash_ok (hl : ∀ n,cx.prot.lets (.obj n) = true) (hA : LifeAt h p f c L) (hs : L.fl.disk.small) :
  Ok tblE cx Fn.life_Life_crash (St.enter [.ptr (.obj p) [] tLife] h) fun v h'=>Fr h h' [p,f,c] ∧ v = .int .i64 (check L.fl.disk) ∧ LifeTo h h' p f c (crashF L):=by
 obtain ⟨li,fi,ca,pf,fc,pc,pn,fn,cn⟩:=hA
 rw [Ok_eq]
 simp (maxSteps:=999999) (disch:=omega) only [go_sem,li,fi,ca]
 refine W_callp rfl ⟨rfl,rfl⟩ (by simp only [go_sem]; exact eDisk (a:=L.fl.now) (b:=L.fl.disk) (by simp only [go_sem,ca])) ?_
 simp (maxSteps:=999999) (disch:=omega) only [go_sem]
 refine W_callp rfl ⟨rfl,rfl⟩ (by simp only [go_sem]; exact upE (up (Mend_ok hs))) ?_
 simp (maxSteps:=999999) (disch:=omega) only [go_sem]
 by_cases e : check L.fl.disk = 0
 rotate_left
 ·simp (maxSteps:=999999) (disch:=omega) only [go_sem,e]
  refine ⟨Fr.refl _ _,f,c,?_,.inl ⟨rfl,rfl⟩⟩
  have : crashF L = L:=by simp [crashF,e]
  rw [this]
  exact ⟨li,fi,ca,pf,fc,pc,pn,fn,cn⟩
 rw [mendV_of e,mendA_of e,mendB_of e,mendC_of e]
 simp (maxSteps:=999999) (disch:=omega) only [go_sem,e]
 refine W_callh (v:=.ptr (.obj (h.next + 1)) [] tFiles) ((h.nw tCache (encC (mended L.fl.disk) (mended L.fl.disk))).nw tFiles (encF h.next (maxSt (mended L.fl.disk) 8))) rfl ⟨rfl,rfl⟩ rfl (by simp only [go_sem]; exact SOf_ok (fun n hn=>decide_eq_true hn) (mended_small hs) (mended_check e)) ?_
 have d1 : ¬h.next + 1 = p:=by omega
 have d2 : ¬h.next = p:=by omega
 simp (maxSteps:=999999) (disch:=omega) only [go_sem,stV_ob (hl p),look_nn_lt pn,li]
 have hc : crashF L = ⟨⟨mended L.fl.disk,mended L.fl.disk,maxSt (mended L.fl.disk) 8⟩,lostF L.fl.disk 8,lostC L.fl.disk 8,lostD (mendI L.fl.disk 8) 9,IntKind.i64.wrap (L.n + 1)⟩:=by simp [crashF,e]
 refine ⟨(Fr.nw.trans Fr.nw).trans (Fr.ob (by simp)),?_⟩
 rw [hc]
 refine ⟨h.next + 1,h.next,?_,.inr ⟨by omega,Nat.le_refl _⟩⟩
 constructor <;> try dsimp only
 ·exact look_ob
 ·rw [look_ob_ne d1]; exact look_nn1
 ·rw [look_ob_ne d2]; exact look_nn0
 ·omega
 ·omega
 ·omega
 ·show p < h.next + 1 + 1; omega
 ·show h.next + 1 < h.next + 1 + 1; omega
 ·show h.next < h.next + 1 + 1; omega
theorem LStep_ok {x : SStep} (hl : ∀ n,cx.prot.lets (.obj n) = true) (hA : LifeAt h p f c L) (hi : Inv0 L.fl) (h1 : x.name.size ≤ 9223372036854775807) (h2 : x.to.size ≤ 9223372036854775807) (h3 : x.text.size ≤ 9223372036854775807) :
  Ok tblE cx Fn.life_Life_Step (St.enter [.ptr (.obj p) [] tLife,x.enc] h) fun v h'=>Fr h h' [p,f,c] ∧ v = .int .i64 (lifeC L x) ∧ LifeTo h h' p f c (lifeF L x):=by
 obtain ⟨li,fi,ca,pf,fc,pc,pn,fn,cn⟩:=id hA
 rw [Ok_eq]
 simp (maxSteps:=999999) (disch:=omega) only [go_sem]
 by_cases c7 : x.kind = 7
 ·simp (maxSteps:=999999) (disch:=omega) only [go_sem,c7,li,fi,ca]
  refine W_callh (v:=.bool (writeAs L.fl.now L.fl.disk x.p).2) (h.ob c tCache (encC L.fl.now (writeAs L.fl.now L.fl.disk x.p).1)) rfl ⟨rfl,rfl⟩ rfl (by simp only [go_sem]; exact eWrite (by exact hl) (by simp only [go_sem,ca])) ?_
  simp (maxSteps:=999999) (disch:=omega) only [go_sem]
  have fin : LifeTo h (h.ob c tCache (encC L.fl.now (writeAs L.fl.now L.fl.disk x.p).1)) p f c (lifeF L x):=by
   have : lifeF L x = { L with fl:={ L.fl with disk:=(writeAs L.fl.now L.fl.disk x.p).1 } }:=by simp [lifeF,c7]
   rw [this]
   exact ⟨f,c,hA.setCa _,.inl ⟨rfl,rfl⟩⟩
  cases cw : (writeAs L.fl.now L.fl.disk x.p).2 with
  | true =>
   simp (maxSteps:=999999) (disch:=omega) only [go_sem,cw]
   exact ⟨Fr.ob (by simp),by simp [lifeC,c7,cw],fin⟩
  | false =>
   simp (maxSteps:=999999) (disch:=omega) only [go_sem,cw]
   exact ⟨Fr.ob (by simp),by simp [lifeC,c7,cw],fin⟩
 by_cases c8 : x.kind = 8
 ·simp (maxSteps:=999999) (disch:=omega) only [go_sem,c7,c8,li,fi,ca]
  refine W_callh (v:=.int .i64 (syncK L.fl.now L.fl.disk)) (h.ob c tCache (encC L.fl.now (syncTo L.fl.now L.fl.disk))) rfl ⟨rfl,rfl⟩ rfl (by simp only [go_sem]; exact eSync (by exact hl) (by simp only [go_sem,ca])) ?_
  simp (maxSteps:=999999) (disch:=omega) only [go_sem]
  refine ⟨Fr.ob (by simp),by simp [lifeC,c7,c8],?_⟩
  have : lifeF L x = { L with fl:={ L.fl with disk:=syncTo L.fl.now L.fl.disk } }:=by simp [lifeF,c7,c8]
  rw [this]
  exact ⟨f,c,hA.setCa _,.inl ⟨rfl,rfl⟩⟩
 by_cases c9 : x.kind = 9
 ·simp (maxSteps:=999999) (disch:=omega) only [go_sem,c7,c8,c9]
  refine W_callF (S:=[p,f,c]) (R:=fun v h'=>v = .int .i64 (check L.fl.disk) ∧ LifeTo (h.push cx.lvl [(3,{ ty:=tStep,val:=x.enc })]) h' p f c (crashF L)) rfl ⟨rfl,rfl⟩ (by
   simp only [go_sem]
   exact crash_ok (L:=L) (f:=f) (c:=c) (by exact hl) ⟨li,fi,ca,pf,fc,pc,pn,fn,cn⟩ hi.sd) (fun v h1 e=>⟨e.1,e.2.pop.push⟩) ?_
  rintro v h' hF ⟨rfl,hT⟩
  simp (maxSteps:=999999) (disch:=omega) only [go_sem]
  refine ⟨hF,by simp [lifeC,c7,c8,c9],?_⟩
  have : lifeF L x = crashF L:=by simp [lifeF,c7,c8,c9]
  rw [this]; exact hT
 simp (maxSteps:=999999) (disch:=omega) only [go_sem,c7,c8,c9,li,fi,ca]
 refine W_callh (v:=.int .i64 (doC L.fl x)) ((h.ob f tFiles (encF c (doF L.fl x).stamp)).ob c tCache (encC (doF L.fl x).now L.fl.disk)) rfl ⟨rfl,rfl⟩ rfl (by simp only [go_sem]; exact Do_ok (by exact hl) (by simp only [go_sem,fi]) (by simp only [go_sem,ca]) fc hi.wf h1 h2 h3) ?_
 simp (maxSteps:=999999) (disch:=omega) only [go_sem]
 refine ⟨Fr_setFl,by simp [lifeC,c7,c8,c9],?_⟩
 have : lifeF L x = { L with fl:=doF L.fl x }:=by simp [lifeF,c7,c8,c9]
 rw [this]
 refine ⟨f,c,?_,.inl ⟨rfl,rfl⟩⟩
 have:=hA.setFl (doF L.fl x)
 rwa [doF_disk] at this
end
def sLt (a b : Str) : Bool:=Op.bytesLess a.toList b.toList
theorem bLt_irrefl : ∀ l : List UInt8,Op.bytesLess l l = false
 | []=>rfl
 | a :: l=>by simp [Op.bytesLess,bLt_irrefl l]
theorem bLt_asymm : ∀ l m : List UInt8,Op.bytesLess l m = true → Op.bytesLess m l = false
 | _,[],h=>by simp [Op.bytesLess] at h
 | [],b :: m,_=>rfl
 | a :: l,b :: m,h=>by
  simp only [Op.bytesLess,Bool.or_eq_true,Bool.and_eq_true,decide_eq_true_eq,beq_iff_eq] at h
  simp only [Op.bytesLess,Bool.or_eq_false_iff,decide_eq_false_iff_not]
  rcases h with h | ⟨rfl,h⟩
  ·refine ⟨fun e=>absurd (UInt8.lt_trans h e) (UInt8.lt_irrefl _),?_⟩
   have : ¬b = a:=fun e=>by subst e; exact absurd h (UInt8.lt_irrefl _)
   simp [this]
  ·exact ⟨UInt8.lt_irrefl _,by simp [bLt_asymm l m h]⟩
theorem bLt_total : ∀ l m : List UInt8,Op.bytesLess l m = false → Op.bytesLess m l = false → l = m
 | [],[],_,_=>rfl
 | [],_ :: _,h,_=>by simp [Op.bytesLess] at h
 | _ :: _,[],_,h=>by simp [Op.bytesLess] at h
 | a :: l,b :: m,h,k=>by
  simp only [Op.bytesLess,Bool.or_eq_false_iff,decide_eq_false_iff_not] at h k
  have e : a = b:=by
   have h1:=h.1; have k1:=k.1
   rw [UInt8.lt_iff_toNat_lt] at h1 k1
   exact UInt8.toNat_inj.1 (by omega)
  subst e
  simp at h k
  rw [bLt_total l m h k]
theorem bLt_trans : ∀ l m n : List UInt8,Op.bytesLess l m = true → Op.bytesLess m n = true → Op.bytesLess l n = true
 | _,[],_,h,_=>by simp [Op.bytesLess] at h
 | _,_ :: _,[],_,h=>by simp [Op.bytesLess] at h
 | [],_ :: _,_ :: _,_,_=>rfl
 | a :: l,b :: m,c :: n,h,k=>by
  simp only [Op.bytesLess,Bool.or_eq_true,Bool.and_eq_true,decide_eq_true_eq,beq_iff_eq] at h k ⊢
  rcases h with h | ⟨rfl,h⟩
  ·rcases k with k | ⟨rfl,k⟩
   ·exact .inl (UInt8.lt_trans h k)
   ·exact .inl h
  ·rcases k with k | ⟨rfl,k⟩
   ·exact .inl k
   ·exact .inr ⟨rfl,bLt_trans l m n h k⟩
theorem str_toList {a b : Str} : a.toList = b.toList ↔ a = b:=by
 constructor
 ·intro h
  rw [bytes_list,bytes_list] at h
  cases a; cases b
  simp only [ByteArray.mk.injEq]
  exact Array.toList_inj.1 h
 ·rintro rfl; rfl
theorem sLt_irrefl (a : Str) : sLt a a = false:=bLt_irrefl _
theorem sLt_asymm {a b : Str} (h : sLt a b = true) : sLt b a = false:=bLt_asymm _ _ h
theorem sLt_trans {a b c : Str} (h : sLt a b = true) (k : sLt b c = true) : sLt a c = true:=bLt_trans _ _ _ h k
theorem sLt_total {a b : Str} (h : sLt a b = false) (k : sLt b a = false) : a = b:=str_toList.1 (bLt_total _ _ h k)
def sLe (a b : Str) : Bool:=!sLt b a
theorem sLe_trans {a b c : Str} (h : sLe a b = true) (k : sLe b c = true) : sLe a c = true:=by
 simp only [sLe,Bool.not_eq_true'] at h k ⊢
 cases e : sLt c a with
 | false=>rfl
 | true =>
  cases e2 : sLt b c with
  | true=>rw [sLt_trans e2 e] at h; exact h
  | false =>
   have : b = c:=sLt_total e2 k
   subst this
   rw [e] at h; exact h
theorem sLe_antisymm {a b : Str} (h : sLe a b = true) (k : sLe b a = true) : a = b:=by
 simp only [sLe,Bool.not_eq_true'] at h k
 exact sLt_total k h
def Sorted (l : List Str) : Prop:=l.Pairwise fun a b=>sLe a b = true
theorem sorted_unique : ∀ {l m : List Str},Sorted l → Sorted m → l.Perm m → l = m
 | [],m,_,_,p=>(List.Perm.nil_eq p)
 | a :: l,[],_,_,p=>absurd p.length_eq (by simp)
 | a :: l,b :: m,hl,hm,p=>by
  have e : a = b:=by
   have ha : a ∈ b :: m:=p.subset List.mem_cons_self
   have hb : b ∈ a :: l:=p.symm.subset List.mem_cons_self
   rcases List.mem_cons.1 ha with e | ha
   ·exact e
   ·rcases List.mem_cons.1 hb with e | hb
    ·exact e.symm
    ·exact sLe_antisymm ((List.pairwise_cons.1 hl).1 b hb) ((List.pairwise_cons.1 hm).1 a ha)
  subst e
  rw [sorted_unique (List.pairwise_cons.1 hl).2 (List.pairwise_cons.1 hm).2 (List.Perm.cons_inv p)]
def encS (l : List Str) : AV:=.ofList (l.map AV.str)
theorem encS_toList (l : List Str) : (encS l).toList = some (l.map AV.str):=by
 simp only [encS,AV.ofList,AV.toList]
 congr 1
 exact List.ext_getElem (by simp) (by simp)
theorem encS_fits (l : List Str) {n : Nat} (h : n = l.length) : (Ty.arr n tS).fits (encS l) = true:=by
 subst h
 simp [encS,AV.ofList,Ty.fits,tS,LK.fits,AV.safe]
def txt (l : List Str) (i : Nat) : Str:=l.getD i ⟨#[]⟩
@[go_sem] theorem encS_at (l : List Str) {i : Nat} (h : i < l.length) : (encS l).at [i] = some (.str (txt l i)):=by
 simp [encS,AV.ofList,AV.at,h,txt]
theorem txt_set (l : List Str) (i : Nat) (s : Str) (j : Nat) : txt (l.set i s) j = if j = i ∧ i < l.length then s else txt l j:=by
 simp only [txt,List.getD_eq_getElem?_getD,List.getElem?_set]
 by_cases e : i = j
 ·subst e
  by_cases h : i < l.length
  ·simp [h]
  ·simp [h]
 ·have : ¬j = i:=fun h=>e h.symm
  simp [e,this]
theorem txt_get {l : List Str} {i : Nat} (h : i < l.length) : txt l i = l[i]:=by simp [txt,h]
theorem arr_ofList {n : Nat} {f : Fin n → AV} {l : List AV} (hl : l.length = n) (h : ∀ i (hi : i < n),f ⟨i,hi⟩ = l[i]'(by omega)) : AV.arr n f = AV.ofList l:=by
 subst hl
 simp only [AV.ofList]
 congr 1
 funext i
 exact h i.val i.isLt
@[go_sem] theorem encS_put (l : List Str) {i : Nat} (h : i < l.length) (s : Str) : (encS l).put [i] (.str s) = some (encS (l.set i s)):=by
 simp only [encS,AV.ofList,AV.put,List.length_map,h,dite_true,Option.map_some]
 congr 1
 refine arr_ofList (by simp) fun j hj=>?_
 simp only [List.get_eq_getElem,List.getElem_map,List.getElem_set]
 by_cases e : j = i
 ·subst e; simp
 ·have : ¬i = j:=fun h=>e h.symm
  simp [e,this]
def cmpS (a b : Str) : Int:=if sLt a b = true then -1 else if a = b then 0 else 1
theorem cmpS_lt (a b : Str) : (cmpS a b < 0) ↔ sLt a b = true:=by
 unfold cmpS
 split
 ·simp [*]
 ·rename_i h1
  have h2 : sLt a b = false:=by simpa using h1
  split <;> simp [h2]
@[go_sem] theorem evStr_lss (a b : Str) : evStr .lss a b = some (.bool (sLt a b)):=rfl
@[go_sem] theorem evStr_gtr (a b : Str) : evStr .gtr a b = some (.bool (!(sLt a b || decide (a = b)))):=by
 show some (AV.bool (!(Op.bytesLess a.toList b.toList || a.toList == b.toList))) = _
 rw [bytes_eq]; rfl
section
variable {T : Nat → Option MFun} {cx : Cx} {k : List Item} {kill : List Nat} {r : List MOp} {sl : Slots} {own : Own} {h : HP} {Q : St → Prop}
@[go_sem] theorem sidxV_int {t : Ty} {j : Id} {off len : Nat} {z : Int} {kk : IntKind} {L : Id → Option Blk} (h0 : 0 ≤ z) (hm : z < len) : sidxV t (.sl j off len) (.int kk z) L = sidxB t j (off + z.toNat) (L j):=by
 simp only [sidxV,toIx]; rw [if_pos ⟨by omega,by omega⟩]
@[go_sem] theorem toNat_succ (p : Nat) : ((p : Int) + 1).toNat = p + 1:=by omega
theorem W_callvp {prot : Bool} {f : Nat} {x : Opd} {args : List Opd} {d : Option Nat} {fn : MFun} {v : AV} (hx : St.opd ⟨sl,own,h⟩ x = .func f .unit) (hf : T f = some fn) (hp : fn.params = args.length ∧ fn.nfree = 0)
  (hc : Ok T (St.callCx ⟨sl,own,h⟩ cx prot) fn (St.enter (args.map (St.opd ⟨sl,own,h⟩)) (h.push cx.lvl own)) fun v' h'=>v' = v ∧ h' = h.push cx.lvl own)
  (hq : W T cx (.ops r kill :: k) (St.setd ⟨sl,own,h⟩ d v) Q) :
  W T cx (.ops (⟨d,.callv prot [] x args,none⟩ :: r) kill :: k) ⟨sl,own,h⟩ Q:=by
 refine W_call (R:=fun v' h'=>v' = v ∧ h' = h.push cx.lvl own) (cx':=St.callCx ⟨sl,own,h⟩ cx prot) (hide:=[]) (e:=St.enter (args.map (St.opd ⟨sl,own,h⟩)) (h.push cx.lvl own)) (fn:=fn) (d:=d) (k1:=.ops r kill :: k) (s1:=⟨sl,own,h⟩) ?_ hc ?_
 ·simp only [next,St.wanted,opCmd,hx,enterCmd,hf,capList,List.length_map,List.length_nil,List.append_nil,veil_nil]
  rw [if_pos hp]
 ·rintro v' h' ⟨rfl,rfl⟩
  rw [pop_push]; exact hq
@[go_sem] theorem fg_func (f : Nat) (i : Id) : fg (.func f .unit) i = .func f .unit:=by simp [fg,AV.leads,AV.isAgg,AV.names]
@[go_sem] theorem leads_func (f : Nat) (i : Id) : (AV.func f .unit).leads i = false:=by simp [AV.leads,AV.isAgg,AV.names]
end
structure PermIn (l m : List Str) (a b : Nat) : Prop where
 perm : m.Perm l
 out : ∀ i,(i < a ∨ b ≤ i) → txt m i = txt l i
theorem PermIn.refl (l : List Str) (a b : Nat) : PermIn l l a b:=⟨List.Perm.refl _,fun _ _=>rfl⟩
theorem PermIn.len {l m : List Str} {a b : Nat} (h : PermIn l m a b) : m.length = l.length:=h.perm.length_eq
theorem PermIn.trans {l m n : List Str} {a b : Nat} (h : PermIn l m a b) (k : PermIn m n a b) : PermIn l n a b:=⟨k.perm.trans h.perm,fun i hi=>(k.out i hi).trans (h.out i hi)⟩
def swapL (l : List Str) (i j : Nat) : List Str:=(l.set i (txt l j)).set j (txt l i)
theorem txt_swap {l : List Str} {i j : Nat} (hi : i < l.length) (hj : j < l.length) (x : Nat) : txt (swapL l i j) x = if x = j then txt l i else if x = i then txt l j else txt l x:=by
 simp only [swapL,txt_set,List.length_set,hi,hj,and_true]
theorem swap_perm {l : List Str} {i j : Nat} (hi : i < l.length) (hj : j < l.length) : (swapL l i j).Perm l:=by
 rw [swapL,txt_get hi,txt_get hj]
 exact List.set_set_perm hi hj
theorem PermIn.swap {l : List Str} {a b i j : Nat} (hi : i < l.length) (hj : j < l.length) (h1 : a ≤ i ∧ i < b) (h2 : a ≤ j ∧ j < b) : PermIn l (swapL l i j) a b :=
 ⟨swap_perm hi hj,fun x hx=>by
  rw [txt_swap hi hj,if_neg (by omega),if_neg (by omega)]⟩
def SortedIn (l : List Str) (a b : Nat) : Prop:=∀ x y,a ≤ x → x < y → y < b → sLe (txt l x) (txt l y) = true
def SinkIn (l : List Str) (a i j : Nat) : Prop:=(∀ x y,a ≤ x → x < y → y ≤ i → ¬x = j → ¬y = j → sLe (txt l x) (txt l y) = true) ∧ ∀ y,j < y → y ≤ i → sLe (txt l j) (txt l y) = true
theorem sLe_of_lt {a b : Str} (h : sLt a b = true) : sLe a b = true:=by simp [sLe,sLt_asymm h]
theorem SinkIn.start {l : List Str} {a i : Nat} (h : SortedIn l a i) : SinkIn l a i i:=⟨fun x y hx hy hi hxi hyi=>h x y hx hy (by omega),fun y h1 h2=>by omega⟩
theorem SinkIn.step {l : List Str} {a i j : Nat} (h : SinkIn l a i (j + 1)) (hj : a ≤ j) (hi : j + 1 ≤ i) (hl : i < l.length) (hlt : sLt (txt l (j + 1)) (txt l j) = true) : SinkIn (swapL l (j + 1) j) a i j:=by
 have ts:=txt_swap (l:=l) (i:=j + 1) (j:=j) (by omega) (by omega)
 refine ⟨fun x y hx hxy hyi hxj hyj=>?_,fun y hy hyi=>?_⟩
 ·rw [ts x,ts y,if_neg hxj,if_neg hyj]
  by_cases e1 : x = j + 1
  ·rw [if_pos e1,if_neg (by omega)]
   exact h.1 j y hj (by omega) hyi (by omega) (by omega)
  ·rw [if_neg e1]
   by_cases e2 : y = j + 1
   ·rw [if_pos e2]
    exact h.1 x j hx (by omega) (by omega) (by omega) (by omega)
   ·rw [if_neg e2]
    exact h.1 x y hx hxy hyi (by omega) (by omega)
 ·rw [ts j,ts y,if_pos rfl,if_neg (by omega)]
  by_cases e2 : y = j + 1
  ·rw [if_pos e2]; exact sLe_of_lt hlt
  ·rw [if_neg e2]; exact h.2 y (by omega) hyi
theorem SinkIn.low {l : List Str} {a i : Nat} (h : SinkIn l a i a) : SortedIn l a (i + 1):=fun x y hx hxy hy=>by
 by_cases e : x = a
 ·subst e; exact h.2 y hxy (by omega)
 ·exact h.1 x y hx hxy (by omega) e (by omega)
theorem SinkIn.rest {l : List Str} {a i j : Nat} (h : SinkIn l a i (j + 1)) (hj : a ≤ j) (hge : sLt (txt l (j + 1)) (txt l j) = false) : SortedIn l a (i + 1):=fun x y hx hxy hy=>by
 have hle : sLe (txt l j) (txt l (j + 1)) = true:=by simp [sLe,hge]
 by_cases e : x = j + 1
 ·subst e; exact h.2 y hxy (by omega)
 ·by_cases e2 : y = j + 1
  ·subst e2
   by_cases e3 : x = j
   ·subst e3; exact hle
   ·by_cases e4 : j ≤ i
    ·exact sLe_trans (h.1 x j hx (by omega) e4 e (by omega)) hle
    ·omega
  ·exact h.1 x y hx hxy (by omega) e e2
section
variable {cx : Cx} {h : HP}
theorem isNaN_ok {a : Str} : Ok tblE cx Fn.cmp_isNaN (St.enter [.str a] h) fun v h'=>v = .bool false ∧ h' = h:=by
 rw [Ok_eq]
 simp (maxSteps:=999999) (disch:=omega) only [go_sem]
theorem Compare_ok {a b : Str} : Ok tblE cx Fn.cmp_Compare (St.enter [.str a,.str b] h) fun v h'=>v = .int .i64 (cmpS a b) ∧ h' = h:=by
 rw [Ok_eq]
 simp (maxSteps:=999999) (disch:=omega) only [go_sem]
 refine W_callp rfl ⟨rfl,rfl⟩ (by simp only [go_sem]; exact isNaN_ok) ?_
 simp (maxSteps:=999999) (disch:=omega) only [go_sem]
 refine W_callp rfl ⟨rfl,rfl⟩ (by simp only [go_sem]; exact isNaN_ok) ?_
 simp (maxSteps:=999999) (disch:=omega) only [go_sem]
 cases c1 : sLt a b with
 | true=>simp (maxSteps:=999999) (disch:=omega) only [go_sem,c1]; simp [cmpS,c1]
 | false =>
  simp (maxSteps:=999999) (disch:=omega) only [go_sem,c1]
  by_cases c2 : a = b
  ·simp (maxSteps:=999999) (disch:=omega) only [go_sem,c2]
   simp [cmpS,sLt_irrefl]
  ·simp (maxSteps:=999999) (disch:=omega) only [go_sem,c2]
   simp [cmpS,c1,c2]
theorem List1_ok {a b : Str} : Ok tblE cx Fn.soft_Files_List_1 (St.enter [.str a,.str b] h) fun v h'=>v = .int .i64 (cmpS a b) ∧ h' = h:=by
 rw [Ok_eq]
 simp (maxSteps:=999999) (disch:=omega) only [go_sem]
 refine W_callp rfl ⟨rfl,rfl⟩ (by simp only [go_sem]; exact Compare_ok) ?_
 simp (maxSteps:=999999) (disch:=omega) only [go_sem]
def IsCmp (F : Nat) : Prop:=∃ fn : MFun,tblE F = some fn ∧ (fn.params = 2 ∧ fn.nfree = 0) ∧ ∀ (cx : Cx) (h : HP) (a b : Str),Ok tblE cx fn (St.enter [.str a,.str b] h) fun v h'=>v = .int .i64 (cmpS a b) ∧ h' = h
theorem isCmp289 : IsCmp 289:=⟨_,rfl,⟨rfl,rfl⟩,fun _ _ _ _=>List1_ok⟩
theorem insSort_ok {F q n a b : Nat} {l : List Str} (hl : ∀ n,cx.prot.lets (.obj n) = true) (hF : IsCmp F) (hn : l.length = n) (hb : b ≤ n) (hn2 : n ≤ 1000000) (hab : a ≤ b) (hq : h.look (.obj q) = some ⟨.arr n tS,encS l⟩) :
  Ok tblE cx Fn.slices_insertionSortCmpFunc (St.enter [.sl (.obj q) 0 n,.int .i64 a,.int .i64 b,.func F .unit] h) fun v h'=>v = .tup .unit ∧ ∃ m,h' = h.ob q (.arr n tS) (encS m) ∧ PermIn l m a b ∧ SortedIn m a b:=by
 obtain ⟨fn,hf1,hf2,hf3⟩:=hF
 rw [Ok_eq]
 simp (maxSteps:=999999) (disch:=omega) only [go_sem]
 have h0 : h.ob q (.arr n tS) (encS l) = h:=ob_self hq
 refine W_forE (α:=List Str) (b - a) (fun k m=>⟨[(0,.sl (.obj q) 0 n),(1,.int .i64 a),(2,.int .i64 b),(3,.func F .unit),(8,.int .i64 (a + 1 + k : Nat))],[],h.ob q (.arr n tS) (encS m)⟩) (fun k m=>PermIn l m a b ∧ SortedIn m a (a + 1 + k)) l (by simp only [go_sem,h0] <;> rfl) ⟨PermIn.refl _ _ _,fun x y h1 h2 h3=>by omega⟩ fun k m hk hp ih=>?_
 obtain ⟨hp,hs⟩:=hp
 have hm:=hp.len
 by_cases hlt : a + 1 + k < b
 ·simp (maxSteps:=999999) (disch:=omega) only [go_sem,hlt]
  refine W_forE (α:=List Str) (k + 1) (fun j m=>⟨[(0,.sl (.obj q) 0 n),(1,.int .i64 a),(2,.int .i64 b),(3,.func F .unit),(8,.int .i64 (a + 1 + k : Nat)),(9,.int .i64 ((a + 1 + k - j : Nat) : Int))],[],h.ob q (.arr n tS) (encS m)⟩) (fun j m=>PermIn l m a b ∧ SinkIn m a (a + 1 + k) (a + 1 + k - j)) m (by simp only [go_sem] <;> rfl) ⟨hp,SinkIn.start hs⟩ fun j m hj hp ih2=>?_
  obtain ⟨hp,hs⟩:=hp
  have hm:=hp.len
  by_cases hj2 : j < k + 1
  ·obtain ⟨p,hpd⟩ : ∃ p,a + k - j = p:=⟨_,rfl⟩
   have e1 : a + 1 + k - j = p + 1:=by omega
   rw [e1] at hs ⊢
   have e2 : ((p : Int) + 1 - 1) = (p : Int):=by omega
   simp (maxSteps:=999999) (disch:=first | omega | (simp only [List.length_set]; omega)) only [go_sem,e2]
   refine W_callvp (v:=.int .i64 (cmpS (txt m (p + 1)) (txt m p))) (by simp only [go_sem] <;> rfl) hf1 hf2 (by simp only [go_sem]; exact hf3 _ _ _ _) ?_
   simp (maxSteps:=999999) (disch:=first | omega | (simp only [List.length_set]; omega)) only [go_sem]
   cases c : sLt (txt m (p + 1)) (txt m p) with
   | true =>
    have c' : cmpS (txt m (p + 1)) (txt m p) < 0:=(cmpS_lt _ _).2 c
    simp (maxSteps:=999999) (disch:=first | omega | (simp only [List.length_set]; omega)) only [go_sem,c',e2,stV_ob (hl _)]
    refine ih2 _ (swapL m (p + 1) p) hj2 ?_ ⟨hp.trans (PermIn.swap (by omega) (by omega) (by omega) (by omega)),?_⟩
    ·have e3 : a + 1 + k - (j + 1) = p:=by omega
     simp only [go_sem,e3,swapL]
    ·have e3 : a + 1 + k - (j + 1) = p:=by omega
     rw [e3]
     exact hs.step (by omega) (by omega) (by omega) c
   | false =>
    have c' : ¬cmpS (txt m (p + 1)) (txt m p) < 0:=fun e=>by rw [cmpS_lt,c] at e; simp at e
    simp (maxSteps:=999999) (disch:=first | omega | (simp only [List.length_set]; omega)) only [go_sem,c']
    refine ih _ m (by omega) ?_ ⟨hp,?_⟩
    ·simp only [go_sem,Int.add_assoc]
    ·exact hs.rest (by omega) c
  ·obtain rfl : j = k + 1:=by omega
   have e1 : a + 1 + k - (k + 1) = a:=by omega
   rw [e1] at hs ⊢
   simp (maxSteps:=999999) (disch:=first | omega | (simp only [List.length_set]; omega)) only [go_sem]
   refine ih _ m (by omega) ?_ ⟨hp,?_⟩
   ·simp only [go_sem,Int.add_assoc]
   ·exact hs.low
 ·simp (maxSteps:=999999) (disch:=first | omega | (simp only [List.length_set]; omega)) only [go_sem,hlt]
  refine ⟨m,rfl,hp,fun x y h1 h2 h3=>hs x y h1 h2 (by omega)⟩
def lenTab : Str:=⟨#[0,1,2,2,3,3,3,3,4,4,4,4,4,4,4,4,5,5,5,5,5,5,5,5,5,5,5,5,5,5,5,5,6,6,6,6,6,6,6,6,6,6,6,6,6,6,6,6,6,6,6,6,6,6,6,6,6,6,6,6,6,6,6,6,7,7,7,7,7,7,7,7,7,7,7,7,7,7,7,7,7,7,7,7,7,7,7,7,7,7,7,7,7,7,7,7,7,7,7,7,7,7,7,7,7,7,7,7,7,7,7,7,7,7,7,7,7,7,7,7,7,7,7,7,7,7,7,7,8,8,8,8,8,8,8,8,8,8,8,8,8,8,8,8,8,8,8,8,8,8,8,8,8,8,8,8,8,8,8,8,8,8,8,8,8,8,8,8,8,8,8,8,8,8,8,8,8,8,8,8,8,8,8,8,8,8,8,8,8,8,8,8,8,8,8,8,8,8,8,8,8,8,8,8,8,8,8,8,8,8,8,8,8,8,8,8,8,8,8,8,8,8,8,8,8,8,8,8,8,8,8,8,8,8,8,8,8,8,8,8,8,8,8,8,8,8,8,8,8,8,8,8,8,8,8,8]⟩
theorem lenTab_get {x : Nat} (hx : x < 256) : ∃ c : UInt8,lenTab[x]? = some c ∧ c.toNat ≤ 8:=by
 have h : ∀ x : Fin 256,∃ c : UInt8,lenTab[x.val]? = some c ∧ c.toNat ≤ 8:=by
  have : ∀ x : Fin 256,(match lenTab[x.val]? with | some c=>decide (c.toNat ≤ 8) | none=>false) = true:=by decide +kernel
  intro x
  have:=this x
  cases e : lenTab[x.val]? with
  | none=>rw [e] at this; simp at this
  | some c=>rw [e] at this; exact ⟨c,rfl,by simpa using this⟩
 exact h ⟨x,hx⟩
theorem Len64_ok {x : Nat} (hx : x < 256) : Ok tblE cx Fn.math_bits_Len64 (St.enter [.int .u64 x] h) fun v h'=>(∃ z : Int,0 ≤ z ∧ z ≤ 8 ∧ v = .int .i64 z) ∧ h' = h:=by
 obtain ⟨c,hc,hc8⟩:=lenTab_get hx
 have e1 : IntKind.u8.wrap (x : Int) = x:=by
  have e1 : (IntKind.u8).bits = 8:=rfl
  have e2 : (IntKind.u8).signed = false:=rfl
  have p1 : (2 : Int) ^ 8 = 256:=rfl
  simp only [IntKind.wrap,e1,e2,Bool.false_and,Bool.false_eq_true,if_false,p1]
  omega
 have e2 : stridxV (.str lenTab) (.int .u8 (x : Int)) = some (.int .u8 c.toNat):=by
  simp only [stridxV,toIx,Int.toNat_natCast,hc,Option.map_some]
  rw [if_pos (by omega)]
 have e3 : IntKind.i64.wrap (c.toNat : Int) = c.toNat:=wrap64 (by omega) (by omega)
 rw [Ok_eq]
 rw [lenTab] at e2
 simp (maxSteps:=999999) (disch:=omega) only [go_sem,e1,e2,e3]
 exact ⟨_,by omega,by omega,rfl⟩
theorem Len_ok {x : Nat} (hx : x < 256) : Ok tblE cx Fn.math_bits_Len (St.enter [.int .u64 x] h) fun v h'=>(∃ z : Int,0 ≤ z ∧ z ≤ 8 ∧ v = .int .i64 z) ∧ h' = h:=by
 rw [Ok_eq]
 simp (maxSteps:=999999) (disch:=omega) only [go_sem]
 refine W_callhv (P:=fun v=>∃ z : Int,0 ≤ z ∧ z ≤ 8 ∧ v = .int .i64 z) h rfl ⟨rfl,rfl⟩ rfl (by simp only [go_sem]; exact Len64_ok hx) ?_
 rintro v ⟨z,z0,z8,rfl⟩
 simp (maxSteps:=999999) (disch:=omega) only [go_sem]
 exact ⟨_,z0,z8,rfl⟩
def sortS (l : List Str) : List Str:=l.mergeSort sLe
theorem sortS_sorted (l : List Str) : Sorted (sortS l):=List.pairwise_mergeSort (le:=sLe) (fun a b c=>sLe_trans) (fun a b=>by
 cases e : sLt b a with
 | false=>simp [sLe,e]
 | true=>simp [sLe,sLt_asymm e]) l
theorem sortS_perm (l : List Str) : (sortS l).Perm l:=List.mergeSort_perm l sLe
theorem sorted_of {m : List Str} (h : SortedIn m 0 m.length) : Sorted m:=by
 rw [Sorted,List.pairwise_iff_getElem]
 intro i j hi hj hij
 have:=h i j (Nat.zero_le _) hij hj
 rwa [txt_get hi,txt_get hj] at this
theorem sortS_eq {l m : List Str} (hp : m.Perm l) (hs : Sorted m) : m = sortS l:=sorted_unique hs (sortS_sorted l) (hp.trans (sortS_perm l).symm)
theorem pdq_small {F q : Nat} {l : List Str} (hl : ∀ n,cx.prot.lets (.obj n) = true) (hF : IsCmp F) (hn : l.length ≤ 12) (hq : h.look (.obj q) = some ⟨.arr l.length tS,encS l⟩) (z : Int) :
  Ok tblE cx Fn.slices_pdqsortCmpFunc (St.enter [.sl (.obj q) 0 l.length,.int .i64 0,.int .i64 l.length,.int .i64 z,.func F .unit] h) fun v h'=>v = .tup .unit ∧ h' = h.ob q (.arr l.length tS) (encS (sortS l)):=by
 rw [Ok_eq]
 simp (maxSteps:=999999) (disch:=omega) only [go_sem,W_round]
 refine W_callR (R:=fun v h1=>v = .tup .unit ∧ h1 = h.ob q (.arr l.length tS) (encS (sortS l))) rfl ⟨rfl,rfl⟩ (by
  simp only [go_sem]
  refine Ok.mono (insSort_ok (q:=q) (n:=l.length) (a:=0) (b:=l.length) (l:=l) (by exact hl) hF rfl (Nat.le_refl _) (by omega) (Nat.zero_le _) (by simp only [go_sem,hq])) ?_
  rintro v h' ⟨rfl,m,rfl,hp,hs⟩
  have em:=sortS_eq hp.perm (sorted_of (by rw [hp.len]; exact hs))
  subst em
  exact ⟨_,push_ob,rfl,rfl,rfl⟩) ?_
 rintro v h1 ⟨rfl,rfl⟩
 simp (maxSteps:=999999) (disch:=omega) only [go_sem]
theorem Sort_ok {F q : Nat} {l : List Str} (hl : ∀ n,cx.prot.lets (.obj n) = true) (hF : IsCmp F) (hn : l.length ≤ 12) (hq : h.look (.obj q) = some ⟨.arr l.length tS,encS l⟩) :
  Ok tblE cx Fn.slices_SortFunc (St.enter [.sl (.obj q) 0 l.length,.func F .unit] h) fun v h'=>v = .tup .unit ∧ h' = h.ob q (.arr l.length tS) (encS (sortS l)):=by
 have e1 : IntKind.u64.wrap (l.length : Int) = l.length:=by
  have e1 : (IntKind.u64).bits = 64:=rfl
  have e2 : (IntKind.u64).signed = false:=rfl
  have p1 : (2 : Int) ^ 64 = 18446744073709551616:=rfl
  simp only [IntKind.wrap,e1,e2,Bool.false_and,Bool.false_eq_true,if_false,p1]
  omega
 rw [Ok_eq]
 simp (maxSteps:=999999) (disch:=omega) only [go_sem,e1]
 refine W_callhv (P:=fun v=>∃ z : Int,0 ≤ z ∧ z ≤ 8 ∧ v = .int .i64 z) h rfl ⟨rfl,rfl⟩ rfl (by simp only [go_sem]; exact Len_ok (x:=l.length) (by omega)) ?_
 rintro v ⟨z,z0,z8,rfl⟩
 simp (maxSteps:=999999) (disch:=omega) only [go_sem]
 refine W_callh (v:=.tup .unit) (h.ob q (.arr l.length tS) (encS (sortS l))) rfl ⟨rfl,rfl⟩ rfl (by simp only [go_sem]; exact pdq_small (by exact hl) hF hn (by simp only [go_sem,hq]) z) ?_
 simp (maxSteps:=999999) (disch:=omega) only [go_sem]
theorem insNil_ok {F : Nat} : Ok tblE cx Fn.slices_insertionSortCmpFunc (St.enter [.nilsl,.int .i64 0,.int .i64 0,.func F .unit] h) fun v h'=>v = .tup .unit ∧ h' = h:=by
 rw [Ok_eq]
 simp (maxSteps:=999999) (disch:=omega) only [go_sem,W_round]
theorem pdqNil_ok {F : Nat} {z : Int} : Ok tblE cx Fn.slices_pdqsortCmpFunc (St.enter [.nilsl,.int .i64 0,.int .i64 0,.int .i64 z,.func F .unit] h) fun v h'=>v = .tup .unit ∧ h' = h:=by
 rw [Ok_eq]
 simp (maxSteps:=999999) (disch:=omega) only [go_sem,W_round]
 refine W_callp rfl ⟨rfl,rfl⟩ (by simp only [go_sem]; exact insNil_ok) ?_
 simp (maxSteps:=999999) (disch:=omega) only [go_sem]
theorem SortNil_ok {F : Nat} : Ok tblE cx Fn.slices_SortFunc (St.enter [.nilsl,.func F .unit] h) fun v h'=>v = .tup .unit ∧ h' = h:=by
 have e1 : IntKind.u64.wrap 0 = ((0 : Nat) : Int):=by decide +kernel
 rw [Ok_eq]
 simp (maxSteps:=999999) (disch:=omega) only [go_sem,e1]
 refine W_callhv (P:=fun v=>∃ z : Int,0 ≤ z ∧ z ≤ 8 ∧ v = .int .i64 z) h rfl ⟨rfl,rfl⟩ rfl (by simp only [go_sem]; exact Len_ok (x:=0) (by omega)) ?_
 rintro v ⟨z,z0,z8,rfl⟩
 simp (maxSteps:=999999) (disch:=omega) only [go_sem]
 refine W_callp rfl ⟨rfl,rfl⟩ (by simp only [go_sem]; exact pdqNil_ok) ?_
 simp (maxSteps:=999999) (disch:=omega) only [go_sem]
end
def namesL (a : Img) (d : Nat) : Nat → List Str
 | 0=>[]
 | k + 1=>if (a.ent d k).name = ⟨#[]⟩ then namesL a d k else namesL a d k ++ [(a.ent d k).name]
theorem namesL_len (a : Img) (d : Nat) : ∀ k,(namesL a d k).length ≤ k
 | 0=>Nat.le_refl _
 | k + 1=>by
  have:=namesL_len a d k
  unfold namesL
  split
  ·omega
  ·simp; omega
def listOf (a : Img) (d : Int) : List Str:=if d < 0 ∨ 3 ≤ d then [] else sortS (namesL a d.toNat 4)
def HP.dl (h : HP) (q : Nat) : HP:={ h with obj:=fun k=>if k = q then none else h.obj k }
theorem Fr.dl {h h1 : HP} {q : Nat} {S : List Nat} (a : Fr h h1 S) (hq : h.next ≤ q) : Fr h (h1.dl q) S :=
 ⟨a.stk,a.arg,a.next,fun n hn hs=>by
  show (if n = q then none else h1.obj n) = _
  rw [if_neg (by omega)]; exact a.same n hn hs⟩
def SlF (h h1 : HP) (v : AV) (l : List Str) : Prop:=(v = .nilsl ∧ l = []) ∨ ∃ q,v = .sl (.obj q) 0 l.length ∧ h.next ≤ q ∧ q < h1.next ∧ h1.look (.obj q) = some ⟨.arr l.length tS,encS l⟩
section
variable {T : Nat → Option MFun} {cx : Cx} {k : List Item} {kill : List Nat} {r : List MOp} {sl : Slots} {own : Own} {h : HP} {Q : St → Prop}
def WBs (T : Nat → Option MFun) (cx : Cx) (v : AV) (d : Nat) (r : List MOp) (kill : List Nat) (k : List Item) (sl : Slots) (own : Own) (h : HP) (Q : St → Prop) : Prop :=
 onO (fill (.arr 1 tS) (Ty.arr 1 tS).zero [(0,v)]) fun w=>W T cx (.ops r kill :: k) ⟨(Slots.forget sl (.stk cx.lvl d)).set d (.sl (.stk cx.lvl d) 0 1),own.set d ⟨.arr 1 tS,w⟩,h⟩ Q
theorem fill1s (s : Str) : fill (.arr 1 tS) (Ty.arr 1 tS).zero [(0,.str s)] = some (encS [s]):=by
 simp only [fill,Ty.part,Nat.lt_one_iff,if_true,fits_tS,Ty.zero,AV.put,Nat.zero_lt_one,dite_true,put_nil,Option.map_some,encS,AV.ofList]
 congr 2
 funext j
 match j with
 | ⟨0,_⟩=>rfl
@[go_sem] theorem WBs_str {s : Str} {d : Nat} : WBs T cx (.str s) d r kill k sl own h Q = W T cx (.ops r kill :: k) ⟨(Slots.forget sl (.stk cx.lvl d)).set d (.sl (.stk cx.lvl d) 0 1),own.set d ⟨.arr 1 tS,encS [s]⟩,h⟩ Q:=by
 simp only [WBs,fill1s,onO]
@[go_sem] theorem W_bslice1s {d : Nat} {x : Opd} : W T cx (.ops (⟨some d,.bslice false tS 1 [(0,x)],none⟩ :: r) kill :: k) ⟨sl,own,h⟩ Q = WBs T cx (St.opd ⟨sl,own,h⟩ x) d r kill k sl own h Q:=by
 rw [W_op rfl,evOp]
 simp only [evK,WBs,List.map_cons,List.map_nil]
 cases fill (.arr 1 tS) (Ty.arr 1 tS).zero [(0,St.opd ⟨sl,own,h⟩ x)] <;> rfl
def WAs (T : Nat → Option MFun) (cx : Cx) (x : AV) (add : Option (List AV)) (d : Nat) (r : List MOp) (kill : List Nat) (k : List Item) (sl : Slots) (own : Own) (h : HP) (Q : St → Prop) : Prop :=
 onO add fun add=>onO (evAppend (St.look cx ⟨sl,own,h⟩) tS x add) fun e=>onO (applyEff cx (some d) true ⟨sl,own,h⟩ e) fun p=>W T cx (.ops r kill :: k) (p.2.setd (some d) p.1) Q
def elemsS (b : Option Blk) (len : Nat) : Option (List AV):=match b with
 | some ⟨.arr _ t',v⟩=>match v.toList with
   | some l=>if tS = t' ∧ len ≤ l.length then some (l.take len) else none
   | none=>none
 | _=>none
@[go_sem] theorem elems_slS (L : Id → Option Blk) (j : Id) (len : Nat) : elems L tS (.sl j 0 len) = elemsS (L j) len:=by
 simp only [elems,elemsS,Nat.zero_add,List.drop_zero]
 cases L j with
 | none=>rfl
 | some b=>obtain ⟨bt,bv⟩:=b; cases bt <;> rfl
@[go_sem] theorem elemsS_all (l : List Str) (n : Nat) : elemsS (some ⟨.arr n tS,encS l⟩) l.length = some (l.map AV.str):=by
 have : List.take l.length (List.map AV.str l) = List.map AV.str l:=List.take_of_length_le (by simp)
 simp [elemsS,encS_toList,this]
@[go_sem] theorem elemsS_one (s : Str) : elemsS (some ⟨.arr 1 tS,encS [s]⟩) 1 = some [.str s]:=by
 simp [elemsS,encS_toList]
@[go_sem] theorem W_appendS {d : Nat} {x y : Opd} : W T cx (.ops (⟨some d,.append true [] tS x y,none⟩ :: r) kill :: k) ⟨sl,own,h⟩ Q = WAs T cx (St.opd ⟨sl,own,h⟩ x) (elems (St.look cx ⟨sl,own,h⟩) tS (St.opd ⟨sl,own,h⟩ y)) d r kill k sl own h Q:=by
 rw [W_op rfl,evOp]
 simp only [evK,WAs]
 cases elems (St.look cx ⟨sl,own,h⟩) tS (St.opd ⟨sl,own,h⟩ y) with
 | none=>rfl
 | some add =>
  simp only [onO_some]
  cases evAppend (St.look cx ⟨sl,own,h⟩) tS (St.opd ⟨sl,own,h⟩ x) add <;> rfl
@[go_sem] theorem WAs_nil {s : Str} {d : Nat} : WAs T cx .nilsl (some [.str s]) d r kill k sl own h Q =
  W T cx (.ops r kill :: k) ⟨sl.set d (.sl (.obj h.next) 0 1),own,h.nw (.arr 1 tS) (encS [s])⟩ Q:=by
 have hf:=encS_fits [s] (n:=1) rfl
 simp only [WAs,onO_some,evAppend,List.length_cons,List.length_nil,Nat.zero_add]
 rw [if_neg (by omega),if_pos ⟨hf,by omega⟩]
 rfl
theorem WAs_grow {d q : Nat} {s : Str} {l : List Str} (hl : cx.prot.lets (.obj q) = true) (hq : h.look (.obj q) = some ⟨.arr l.length tS,encS l⟩) (hm : l.length + 1 ≤ 1048576) : WAs T cx (.sl (.obj q) 0 l.length) (some [.str s]) d r kill k sl own h Q =
  W T cx (.ops r kill :: k) ⟨sl.set d (.sl (.obj h.next) 0 (l ++ [s]).length),own,(h.dl q).nw (.arr (l ++ [s]).length tS) (encS (l ++ [s]))⟩ Q:=by
 have hf:=encS_fits (l ++ [s]) (n:=l.length + 1) (by simp)
 have e : List.map AV.str (l ++ [s]) = (List.map AV.str l).take l.length ++ [.str s]:=by
  rw [List.map_append,List.take_of_length_le (by simp)]; rfl
 have el : (l ++ [s]).length = l.length + 1:=by simp
 simp only [encS,e] at hf ⊢
 simp only [WAs,onO_some,evAppend,look_obj,hq,encS_toList,List.length_map,List.length_cons,List.length_nil,Nat.zero_add,List.drop_zero,if_true]
 rw [if_neg (by omega),if_pos (by omega),if_pos ⟨hf,hm⟩]
 simp only [onO_some,applyEff,St.drop,Id.own,hl,if_true,Option.map_some,el]
 rfl
end
section
variable {cx : Cx} {h : HP} {f c : Nat} {a b : Img} {st : Int}
theorem List_ok {d : Int} (hl : ∀ n,cx.prot.lets (.obj n) = true) (hF : h.look (.obj f) = some ⟨tFiles,encF c st⟩) (hC : h.look (.obj c) = some ⟨tCache,encC a b⟩) :
  Ok tblE cx Fn.soft_Files_List (St.enter [.ptr (.obj f) [] tFiles,.int .i64 d] h) fun v h'=>Fr h h' [] ∧ SlF h h' v (listOf a d):=by
 rw [Ok_eq]
 simp (maxSteps:=999999) (disch:=omega) only [go_sem]
 by_cases c0 : d < 0
 ·simp (maxSteps:=999999) (disch:=omega) only [go_sem,c0]
  exact ⟨Fr.refl _ _,.inl ⟨rfl,by simp [listOf,c0]⟩⟩
 by_cases c3 : 3 ≤ d
 ·simp (maxSteps:=999999) (disch:=omega) only [go_sem,c0,c3]
  exact ⟨Fr.refl _ _,.inl ⟨rfl,by simp [listOf,c3]⟩⟩
 have d3 : d.toNat < 3:=by omega
 have eL : listOf a d = sortS (namesL a d.toNat 4):=by simp only [listOf]; rw [if_neg (by omega)]
 simp (maxSteps:=999999) (disch:=omega) only [go_sem,c0,c3,hF,hC]
 refine W_forE (α:=AV × HP) 4 (fun k p=>⟨[(5,p.1),(23,encV Ent.enc a.dir[d.toNat]),(24,.int .i64 k)],[],p.2⟩) (fun k p=>Fr h p.2 [] ∧ SlF h p.2 p.1 (namesL a d.toNat k)) (.nilsl,h) (by simp only [go_sem] <;> rfl) ⟨Fr.refl _ _,.inl ⟨rfl,rfl⟩⟩ fun k p hk hp ih=>?_
 obtain ⟨v,h1⟩:=p
 obtain ⟨hr,hs⟩:=hp
 simp only at hr hs ⊢
 have hlen:=namesL_len a d.toNat k
 by_cases hlt : k < 4
 ·by_cases ce : (a.ent d.toNat k).name = ⟨#[]⟩
  ·have en : namesL a d.toNat (k + 1) = namesL a d.toNat k:=by simp [namesL,ce]
   rcases hs with ⟨rfl,hl0⟩ | ⟨q,rfl,hq1,hq2,hq3⟩
   ·simp (maxSteps:=999999) (disch:=omega) only [go_sem,hlt,ce]
    refine ih _ (.nilsl,h1) hlt ?_ ⟨hr,by rw [en]; exact .inl ⟨rfl,hl0⟩⟩
    simp only [go_sem]
   ·simp (maxSteps:=999999) (disch:=omega) only [go_sem,hlt,ce]
    refine ih _ (.sl (.obj q) 0 (namesL a d.toNat k).length,h1) hlt ?_ ⟨hr,by rw [en]; exact .inr ⟨q,rfl,hq1,hq2,hq3⟩⟩
    simp only [go_sem]
  ·have en : namesL a d.toNat (k + 1) = namesL a d.toNat k ++ [(a.ent d.toNat k).name]:=by simp [namesL,ce]
   rcases hs with ⟨rfl,hl0⟩ | ⟨q,rfl,hq1,hq2,hq3⟩
   ·simp (maxSteps:=999999) (disch:=omega) only [go_sem,hlt,ce]
    refine ih _ (.sl (.obj h1.next) 0 1,h1.nw (.arr 1 tS) (encS [(a.ent d.toNat k).name])) hlt ?_ ⟨hr.trans Fr.nw,?_⟩
    ·simp only [go_sem]
    ·rw [en,hl0]
     exact .inr ⟨h1.next,rfl,hr.next,Nat.lt_succ_self _,look_nw⟩
   ·simp (maxSteps:=999999) (disch:=omega) only [go_sem,hlt,ce]
    rw [WAs_grow (hl q) hq3 (by omega)]
    simp (maxSteps:=999999) (disch:=omega) only [go_sem]
    refine ih _ (.sl (.obj h1.next) 0 (namesL a d.toNat k ++ [(a.ent d.toNat k).name]).length,(h1.dl q).nw (.arr (namesL a d.toNat k ++ [(a.ent d.toNat k).name]).length tS) (encS (namesL a d.toNat k ++ [(a.ent d.toNat k).name]))) hlt ?_ ⟨(hr.dl hq1).trans Fr.nw,?_⟩
    ·simp only [go_sem]
    ·rw [en]
     exact .inr ⟨h1.next,rfl,hr.next,Nat.lt_succ_self _,look_nw (h:=h1.dl q)⟩
 ·obtain rfl : k = 4:=by omega
  rcases hs with ⟨rfl,hl0⟩ | ⟨q,rfl,hq1,hq2,hq3⟩
  ·simp (maxSteps:=999999) (disch:=omega) only [go_sem]
   refine W_callp rfl ⟨rfl,rfl⟩ (by simp only [go_sem]; exact SortNil_ok) ?_
   simp (maxSteps:=999999) (disch:=omega) only [go_sem]
   refine ⟨hr,.inl ⟨rfl,?_⟩⟩
   rw [eL,hl0]; simp [sortS]
  ·have ls : (sortS (namesL a d.toNat 4)).length = (namesL a d.toNat 4).length:=(sortS_perm _).length_eq
   simp (maxSteps:=999999) (disch:=omega) only [go_sem]
   refine W_callh (v:=.tup .unit) (h1.ob q (.arr (namesL a d.toNat 4).length tS) (encS (sortS (namesL a d.toNat 4)))) rfl ⟨rfl,rfl⟩ rfl (by simp only [go_sem]; exact Sort_ok (by exact hl) isCmp289 (by omega) (by simp only [go_sem,hq3])) ?_
   simp (maxSteps:=999999) (disch:=omega) only [go_sem]
   refine ⟨⟨hr.stk,hr.arg,hr.next,fun n hn hs=>by rw [obj_ob_ne (by omega)]; exact hr.same n hn hs⟩,.inr ⟨q,?_,hq1,hq2,?_⟩⟩
   ·rw [eL,ls]
   ·rw [eL,ls]; exact look_ob
end
def encSteps (l : List SStep) : AV:=.ofList (l.map SStep.enc)
def stp (l : List SStep) (k : Nat) : SStep:=l.getD k ⟨0,0,0,0,⟨#[]⟩,⟨#[]⟩,⟨#[]⟩⟩
@[go_sem] theorem encSteps_at (l : List SStep) {k : Nat} (h : k < l.length) (p : List Nat) : (encSteps l).at (k :: p) = (stp l k).enc.at p:=by
 simp [encSteps,AV.ofList,AV.at,h,stp]
structure StepsV (h : HP) (v : AV) (l : List SStep) : Prop where
 len : lenV false v = some (.int .i64 l.length)
 fg : ∀ a b,Go.Mini.fg v (.stk a b) = v
 ld : ∀ a b,v.leads (.stk a b) = false
 ix : ∀ k,k < l.length → ∃ n,v = .sl (.arg n) 0 l.length ∧ h.look (.arg n) = some ⟨.arr l.length tStep,encSteps l⟩
theorem StepsV.to {h h' : HP} {v : AV} {l : List SStep} (a : StepsV h v l) (e : h'.arg = h.arg) : StepsV h' v l :=
 ⟨a.len,a.fg,a.ld,fun k hk=>by
  obtain ⟨n,h1,h2⟩:=a.ix k hk
  exact ⟨n,h1,by simp only [HP.look,e] at h2 ⊢; exact h2⟩⟩
theorem StepsV.push {h : HP} {v : AV} {l : List SStep} {a : Nat} {o : Own} (s : StepsV h v l) : StepsV (h.push a o) v l:=s.to rfl
structure SStep.ok (x : SStep) : Prop where
 name : x.name.size ≤ 9223372036854775807
 to : x.to.size ≤ 9223372036854775807
 text : x.text.size ≤ 9223372036854775807
section
variable {T : Nat → Option MFun} {cx : Cx} {k : List Item} {kill : List Nat} {r : List MOp} {sl : Slots} {own : Own} {h : HP} {Q : St → Prop}
def roV (v : AV) (o : Option AV) : Option AV:=match v with
 | .sl j _ _=>if j.isArg = true then o else none
 | .ptr j _ _=>if j.isArg = true then o else none
 | _=>none
@[go_sem] theorem roV_sl (n a b : Nat) (o : Option AV) : roV (.sl (.arg n) a b) o = o:=rfl
@[go_sem] theorem roV_ptr (n : Nat) (p : List Nat) (t : Ty) (o : Option AV) : roV (.ptr (.arg n) p t) o = o:=rfl
@[go_sem] theorem W_sidxT {d : Option Nat} {t : Ty} {x i : Opd} {s : St} : W T cx (.ops (⟨d,.sidx true t x i,none⟩ :: r) kill :: k) s Q = W1 T cx (roV (s.opd x) (sidxV t (s.opd x) (s.opd i) (s.look cx))) d r kill k s Q :=
 W_val rfl (by
  simp only [evK,sidxV,roV]
  cases s.opd x <;> try (simp; done)
  rename_i j off len
  cases toIx (s.opd i) with
  | none=>simp only []; split <;> rfl
  | some z =>
   simp only [true_implies]
   by_cases hj : j.isArg = true
   ·rw [if_pos hj]
    by_cases hz : 0 ≤ z ∧ z < (len : Int)
    ·rw [if_pos ⟨hz.1,hz.2,hj⟩,if_pos hz]
     cases s.look cx j with
     | none=>rfl
     | some b =>
      obtain ⟨bt,bv⟩:=b
      cases bt <;> try rfl
      simp only [sidxB]
      split <;> rfl
    ·rw [if_neg (fun h=>hz ⟨h.1,h.2.1⟩),if_neg hz]; rfl
   ·rw [if_neg (fun h=>hj h.2.2),if_neg hj]; rfl)
@[go_sem] theorem W_loadT {d : Option Nat} {t : Ty} {x : Opd} {s : St} : W T cx (.ops (⟨d,.load true none t x,none⟩ :: r) kill :: k) s Q = W1 T cx (roV (s.opd x) (ldV t (s.opd x) (s.rd cx))) d r kill k s Q :=
 W_val rfl (by
  simp only [evK,roV]
  cases s.opd x <;> simp only [ldV,rooted,true_implies,true_and,and_true,Option.map_none] <;> try rfl
  ·rename_i i p t'
   by_cases hj : i.isArg = true
   ·rw [if_pos hj]
    by_cases ht : t = t'
    ·simp only [ht,hj,and_self,if_true,St.rd]
     cases (s.look cx i).bind fun b=>b.val.at p with
     | none=>rfl
     | some v=>by_cases hf : t'.fits v = true <;> simp [hf]
    ·rw [if_neg (fun h=>ht h.1),if_neg ht]; rfl
   ·rw [if_neg (fun h=>hj h.2),if_neg hj]; rfl
  ·split <;> rfl)
end
def SlX (h : HP) (l : Nat) (v : AV) (m : List Str) : Prop:=(v = .nilsl ∧ m = []) ∨ ∃ i,v = .sl i 0 m.length ∧ i.below l ∧ h.look i = some ⟨.arr m.length tS,encS m⟩
theorem SlF.x {h h1 : HP} {v : AV} {m : List Str} {l : Nat} (a : SlF h h1 v m) : SlX h1 l v m:=by
 rcases a with a | ⟨q,h1,_,_,h2⟩
 ·exact .inl a
 ·exact .inr ⟨.obj q,h1,below_obj _ _,h2⟩
theorem SlX.len {h : HP} {l : Nat} {v : AV} {m : List Str} (a : SlX h l v m) : lenV false v = some (.int .i64 m.length):=by
 rcases a with ⟨rfl,rfl⟩ | ⟨i,rfl,_⟩ <;> rfl
section
variable {cx : Cx} {h : HP}
theorem SameTexts_ok {v w : AV} {l m : List Str} (hv : SlX h cx.lvl v l) (hw : SlX h cx.lvl w m) (hl : l.length ≤ 1000000) :
  Ok tblE cx Fn.r_SameTexts (St.enter [v,w] h) fun x h'=>x = .bool (decide (l = m)) ∧ h' = h:=by
 have h1:=hv.len
 have h2:=hw.len
 rw [Ok_eq]
 simp (maxSteps:=999999) (disch:=omega) only [go_sem,h1,h2]
 by_cases e : l.length = m.length
 rotate_left
 ·have : ¬l = m:=fun h=>e (by rw [h])
  simp (maxSteps:=999999) (disch:=omega) only [go_sem,this]
 simp (maxSteps:=999999) (disch:=omega) only [go_sem,h1,h2]
 refine W_forP l.length (fun k=>⟨[(0,v),(1,w),(5,.int .i64 k)],[],h⟩) (fun k=>∀ i,i < k → txt l i = txt m i) (by simp only [go_sem] <;> rfl) (fun i hi=>by omega) fun k hk hp ih=>?_
 by_cases hlt : k < l.length
 ·have hlt2 : k < m.length:=by omega
  rcases hv with ⟨rfl,rfl⟩ | ⟨i,rfl,hi1,hi2⟩
  ·simp at hlt
  rcases hw with ⟨rfl,rfl⟩ | ⟨j,rfl,hj1,hj2⟩
  ·simp at hlt2
  simp (maxSteps:=999999) (disch:=omega) only [go_sem,hlt,rd_ext hi1,rd_ext hj1,HP.rd,look_ext hi1,look_ext hj1,hi2,hj2]
  by_cases c : txt l k = txt m k
  ·simp (maxSteps:=999999) (disch:=omega) only [go_sem,c]
   refine ih _ hlt (step_all hp c) ?_
   simp only [go_sem]
  ·simp (maxSteps:=999999) (disch:=omega) only [go_sem,c]
   have : ¬l = m:=fun h=>c (by rw [h])
   simp (maxSteps:=999999) (disch:=omega) only [go_sem,this]
 ·obtain rfl : k = l.length:=by omega
  simp (maxSteps:=999999) (disch:=omega) only [go_sem,h1]
  have : l = m:=List.ext_getElem e fun i h1 h2=>by rw [← txt_get h1,← txt_get h2]; exact hp i h1
  simp (maxSteps:=999999) (disch:=omega) only [go_sem,this]
theorem greatStep_ok {x : SStep} : Ok tblE cx Fn.w_greatStep (St.enter [x.enc] h) fun v h'=>(∃ b,v = .bool b) ∧ h' = h:=by
 rw [Ok_eq]
 simp (maxSteps:=999999) (disch:=omega) only [go_sem]
 exact ⟨_,rfl⟩
theorem greatSteps_ok {v : AV} {l : List SStep} (hv : StepsV h v l) : Ok tblE cx Fn.w_greatSteps (St.enter [v] h) fun x h'=>(∃ b,x = .bool b ∧ (b = false → l.length ≤ 200)) ∧ h' = h:=by
 have h1:=hv.len
 rw [Ok_eq]
 simp (maxSteps:=999999) (disch:=omega) only [go_sem]
 refine W_forP l.length (fun k=>⟨[(0,v),(3,.int .i64 k)],[],h⟩) (fun k=>k ≤ 300) (by simp only [go_sem] <;> rfl) (by omega) fun k hk hp ih=>?_
 have fin : ∀ SL : Slots,True:=fun _=>trivial
 by_cases hlt : k < l.length
 ·by_cases h3 : k < 300
  ·obtain ⟨n,rfl,hn⟩:=hv.ix k hlt
   simp (maxSteps:=999999) (disch:=omega) only [go_sem,h1,hlt,h3,hn]
   refine W_callhv (P:=fun v=>∃ b,v = .bool b) h rfl ⟨rfl,rfl⟩ rfl (by simp only [go_sem]; exact greatStep_ok) ?_
   rintro _ ⟨b,rfl⟩
   cases b with
   | true=>simp (maxSteps:=999999) (disch:=omega) only [go_sem]; exact ⟨true,rfl,by simp⟩
   | false =>
    simp (maxSteps:=999999) (disch:=omega) only [go_sem]
    refine ih _ hlt (by omega) ?_
    simp only [go_sem]
  ·simp (maxSteps:=999999) (disch:=omega) only [go_sem,h1,hlt,h3]
   exact ⟨true,rfl,by simp⟩
 ·obtain rfl : k = l.length:=by omega
  simp (maxSteps:=999999) (disch:=omega) only [go_sem,h1]
  exact ⟨_,rfl,by simp; omega⟩
end
def LifeN (h0 h : HP) (p : Nat) (L : Lf) : Prop:=∃ f c,LifeAt h p f c L ∧ (h0.next ≤ p ∧ h0.next ≤ f ∧ h0.next ≤ c) ∧ Fr h0 h []
theorem Fr.since {h h1 h2 : HP} {S : List Nat} (a : Fr h h1 []) (b : Fr h1 h2 S) (hs : ∀ n ∈ S,h.next ≤ n) : Fr h h2 [] :=
 ⟨b.stk.trans a.stk,b.arg.trans a.arg,Nat.le_trans a.next b.next,fun n hn _=>(b.same n (Nat.lt_of_lt_of_le hn a.next) fun e=>absurd hn (Nat.not_lt.2 (hs n e))).trans (a.same n hn (by simp))⟩
theorem LifeN.same {h0 h1 h2 : HP} {p : Nat} {L : Lf} (a : LifeN h0 h1 p L) (b : Fr h1 h2 []) : LifeN h0 h2 p L:=by
 obtain ⟨f,c,hA,hb,hF⟩:=a
 exact ⟨f,c,⟨b.look hA.pn (by simp) hA.li,b.look hA.fn (by simp) hA.fi,b.look hA.cn (by simp) hA.ca,hA.pf,hA.fc,hA.pc,Nat.lt_of_lt_of_le hA.pn b.next,Nat.lt_of_lt_of_le hA.fn b.next,Nat.lt_of_lt_of_le hA.cn b.next⟩,hb,hF.trans b⟩
theorem LifeN.pop {h0 h1 : HP} {p l : Nat} {o : Own} {L : Lf} (a : LifeN (h0.push l o) (h1.push l o) p L) (hs : h1.stk = h0.stk) : LifeN h0 h1 p L:=by
 obtain ⟨f,c,hA,hb,hF⟩:=a
 exact ⟨f,c,hA.pop,hb,⟨hs,hF.arg,hF.next,hF.same⟩⟩
section
variable {cx : Cx} {h h0 : HP} {p : Nat} {L : Lf}
theorem LNew_N : Ok tblE cx Fn.life_New (St.enter [] h) fun v h'=>v = .ptr (.obj (h.next + 2)) [] tLife ∧ LifeN h h' (h.next + 2) Lf.new:=by
 refine LNew_ok.mono fun v h' e=>?_
 obtain ⟨rfl,rfl⟩:=e
 have hF : Fr h (((h.nw tCache (encC .blank .blank)).nw tFiles (encF h.next 0)).nw tLife (encLi (h.next + 1) 0 0 0 0)) []:=(Fr.nw.trans Fr.nw).trans Fr.nw
 refine ⟨rfl,h.next + 1,h.next,?_,⟨by omega,by omega,by omega⟩,hF⟩
 constructor <;> try dsimp only
 ·exact look_nw (h:=(h.nw tCache (encC .blank .blank)).nw tFiles (encF h.next 0))
 ·rw [look_nw_ne (by show ¬h.next + 1 = h.next + 1 + 1; omega)]; exact look_nn1
 ·rw [look_nw_ne (by show ¬h.next = h.next + 1 + 1; omega)]; exact look_nn0
 ·omega
 ·omega
 ·omega
 ·show h.next + 2 < h.next + 1 + 1 + 1; omega
 ·show h.next + 1 < h.next + 1 + 1 + 1; omega
 ·show h.next < h.next + 1 + 1 + 1; omega
theorem LStep_N {x : SStep} (hl : ∀ n,cx.prot.lets (.obj n) = true) (hN : LifeN h0 h p L) (hi : Inv0 L.fl) (hx : x.ok) :
  Ok tblE cx Fn.life_Life_Step (St.enter [.ptr (.obj p) [] tLife,x.enc] h) fun v h'=>v = .int .i64 (lifeC L x) ∧ LifeN h0 h' p (lifeF L x):=by
 obtain ⟨f,c,hA,⟨b1,b2,b3⟩,hF⟩:=hN
 refine (LStep_ok hl hA hi hx.name hx.to hx.text).mono fun v h' e=>?_
 obtain ⟨e1,rfl,f',c',hA',e2⟩:=e
 have hF' : Fr h0 h' []:=hF.since e1 (by simp; omega)
 have:=hF.next
 refine ⟨rfl,f',c',hA',⟨b1,?_,?_⟩,hF'⟩ <;> rcases e2 with ⟨rfl,rfl⟩ | ⟨e2,e3⟩ <;> omega
end
theorem W_callN {T : Nat → Option MFun} {cx : Cx} {k : List Item} {kill : List Nat} {r : List MOp} {sl : Slots} {own : Own} {h h0 : HP} {Q : St → Prop} {R : AV → Prop} {L' : Lf} {p : Nat}
  {prot : Bool} {f : Nat} {args : List Opd} {d : Option Nat} {fn : MFun} (hf : T f = some fn) (hp : fn.params = args.length ∧ fn.nfree = 0) (hs : h.stk = h0.stk)
  (hc : Ok T (St.callCx ⟨sl,own,h⟩ cx prot) fn (St.enter (args.map (St.opd ⟨sl,own,h⟩)) (h.push cx.lvl own)) fun v' h'=>R v' ∧ LifeN (h0.push cx.lvl own) h' p L')
  (hq : ∀ v h1,R v → LifeN h0 h1 p L' → W T cx (.ops r kill :: k) (St.setd ⟨sl,own,h1⟩ d v) Q) :
  W T cx (.ops (⟨d,.call prot [] f args,none⟩ :: r) kill :: k) ⟨sl,own,h⟩ Q:=by
 refine W_callR (R:=fun v h1=>R v ∧ LifeN h0 h1 p L') hf hp (hc.mono fun v h' e=>?_) fun v h1 e=>hq v h1 e.1 e.2
 obtain ⟨e1,e2⟩:=e
 obtain ⟨f',c',_,_,hF⟩:=id e2
 have hh : h' = HP.push ⟨h0.stk,h'.obj,h'.next,h'.arg⟩ cx.lvl own:=by
  have:=hF.stk
  cases h'
  simp only at this
  subst this
  rfl
 refine ⟨⟨h0.stk,h'.obj,h'.next,h'.arg⟩,hh,hs.symm,e1,?_⟩
 exact LifeN.pop (by rw [← hh]; exact e2) rfl
theorem LifeN.push {h0 h1 : HP} {p l : Nat} {o : Own} {L : Lf} (a : LifeN h0 h1 p L) : LifeN (h0.push l o) (h1.push l o) p L:=by
 obtain ⟨f,c,hA,hb,hF⟩:=a
 exact ⟨f,c,hA.push,hb,⟨by simp only [HP.push,hF.stk],hF.arg,hF.next,hF.same⟩⟩
theorem LifeN.stk {h0 h1 : HP} {p : Nat} {L : Lf} (a : LifeN h0 h1 p L) : h1.stk = h0.stk:=by
 obtain ⟨f,c,_,_,hF⟩:=a; exact hF.stk
theorem LifeN.arg {h0 h1 : HP} {p : Nat} {L : Lf} (a : LifeN h0 h1 p L) : h1.arg = h0.arg:=by
 obtain ⟨f,c,_,_,hF⟩:=a; exact hF.arg
@[go_sem] theorem fill_stepA (k : Int) : fill tStep tStep.zero [(0,.int .i64 k)] = some (SStep.enc ⟨k,0,0,0,⟨#[]⟩,⟨#[]⟩,⟨#[]⟩⟩):=rfl
@[go_sem] theorem fill_stepB (k : Int) (s : Str) : fill tStep tStep.zero [(0,.int .i64 k),(4,.str s)] = some (SStep.enc ⟨k,0,0,0,s,⟨#[]⟩,⟨#[]⟩⟩):=rfl
@[go_sem] theorem fill_stepC (k p : Int) : fill tStep tStep.zero [(0,.int .i64 k),(3,.int .i64 p)] = some (SStep.enc ⟨k,0,0,p,⟨#[]⟩,⟨#[]⟩,⟨#[]⟩⟩):=rfl
@[go_sem] theorem fill_lost1 (a : Int) : fill tLost (encLost 0 0 0) [(0,.int .i64 a)] = some (encLost a 0 0):=rfl
theorem SlF.push {h h1 : HP} {v : AV} {m : List Str} {l l' : Nat} {o o' : Own} (a : SlF (h.push l o) (h1.push l' o') v m) : SlF h h1 v m:=a
theorem SlF.xp {h h1 : HP} {v : AV} {m : List Str} {l : Nat} {o : Own} (a : SlF h h1 v m) : SlX (h1.push l o) (l + 1) v m:=by
 rcases a with a | ⟨q,h1,_,_,h2⟩
 ·exact .inl a
 ·exact .inr ⟨.obj q,h1,below_obj _ _,h2⟩
theorem stepOk_short {k d t p : Int} {n : Str} (h : n.size ≤ 100) : SStep.ok ⟨k,d,t,p,n,⟨#[]⟩,⟨#[]⟩⟩:=⟨by show n.size ≤ _; omega,Nat.zero_le _,Nat.zero_le _⟩
theorem inv_new : Inv0 Lf.new.fl:=⟨WF_check (by decide +kernel),small_of (by decide +kernel),small_of (by decide +kernel)⟩
def sA : SStep:=⟨1,0,0,0,⟨#[97]⟩,⟨#[]⟩,⟨#[]⟩⟩
def sB : SStep:=⟨1,0,0,0,⟨#[98]⟩,⟨#[]⟩,⟨#[]⟩⟩
def sW : SStep:=⟨7,0,0,0,⟨#[]⟩,⟨#[]⟩,⟨#[]⟩⟩
def sW99 : SStep:=⟨7,0,0,99,⟨#[]⟩,⟨#[]⟩,⟨#[]⟩⟩
def sS : SStep:=⟨8,0,0,0,⟨#[]⟩,⟨#[]⟩,⟨#[]⟩⟩
def sC : SStep:=⟨9,0,0,0,⟨#[]⟩,⟨#[]⟩,⟨#[]⟩⟩
def lb1 : Lf:=lifeF .new sA
def lb2 : Lf:=lifeF lb1 sS
def lb3 : Lf:=lifeF lb2 sB
def lb4 : Lf:=lifeF lb3 sW
def lb5 : Lf:=lifeF lb4 sC
theorem lbA : lifeC .new sA = 0:=by decide +kernel
theorem lbB : lifeC lb1 sS = 0:=rfl
theorem lbD : lifeC lb3 sW = 0:=by decide +kernel
theorem lbE : lifeC lb4 sC = 0:=by decide +kernel
theorem lbF : lifeC lb5 sW99 = 1:=by decide +kernel
theorem lbN : lb5.n = 1:=by decide +kernel
theorem lbL : lb5.a = 1 ∧ lb5.b = 0 ∧ lb5.c = 0:=by decide +kernel
theorem lbG : listOf lb5.fl.now 0 = [⟨#[97]⟩]:=by
 have : namesL lb5.fl.now 0 4 = [⟨#[97]⟩]:=by decide +kernel
 show (if (0 : Int) < 0 ∨ (3 : Int) ≤ 0 then [] else sortS (namesL lb5.fl.now (0 : Int).toNat 4)) = _
 rw [if_neg (by omega)]
 show sortS (namesL lb5.fl.now 0 4) = _
 rw [this]
 simp [sortS]
section
variable {cx : Cx} {h : HP}
theorem lifeBegun_ok (hl : ∀ n,cx.prot.lets (.obj n) = true) : Ok tblE cx Fn.w_lifeBegun (St.enter [] h) fun v h'=>Fr h h' [] ∧ v = .bool true:=by
 rw [Ok_eq]
 simp (maxSteps:=999999) (disch:=omega) only [go_sem]
 refine W_callN (h0:=h) (R:=fun v=>v = .ptr (.obj (h.next + 2)) [] tLife) (L':=Lf.new) (p:=h.next + 2) rfl ⟨rfl,rfl⟩ rfl (by simp only [go_sem]; exact LNew_N) ?_
 rintro v h1 rfl n0
 generalize h.next + 2 = p at n0 ⊢
 have i1 : Inv0 lb1.fl:=inv_new.lifeF (L:=.new) sA
 have i2 : Inv0 lb2.fl:=i1.lifeF sS
 have i3 : Inv0 lb3.fl:=i2.lifeF sB
 have i4 : Inv0 lb4.fl:=i3.lifeF sW
 have i5 : Inv0 lb5.fl:=i4.lifeF sC
 simp (maxSteps:=999999) (disch:=omega) only [go_sem]
 refine W_callN (h0:=h) (R:=fun v=>v = .int .i64 (lifeC .new sA)) (L':=lb1) (p:=p) rfl ⟨rfl,rfl⟩ n0.stk (by simp only [go_sem]; exact LStep_N (by exact hl) n0.push inv_new (stepOk_short (by decide))) ?_
 rintro v h2 rfl n1
 rw [lbA]
 simp (maxSteps:=999999) (disch:=omega) only [go_sem]
 refine W_callN (h0:=h) (R:=fun v=>v = .int .i64 (lifeC lb1 sS)) (L':=lb2) (p:=p) rfl ⟨rfl,rfl⟩ n1.stk (by simp only [go_sem]; exact LStep_N (by exact hl) n1.push i1 (stepOk_short (by decide))) ?_
 rintro v h3 rfl n2
 rw [lbB]
 simp (maxSteps:=999999) (disch:=omega) only [go_sem]
 refine W_callN (h0:=h) (R:=fun v=>v = .int .i64 (lifeC lb2 sB)) (L':=lb3) (p:=p) rfl ⟨rfl,rfl⟩ n2.stk (by simp only [go_sem]; exact LStep_N (by exact hl) n2.push i2 (stepOk_short (by decide))) ?_
 rintro v h4 rfl n3
 simp (maxSteps:=999999) (disch:=omega) only [go_sem]
 refine W_callN (h0:=h) (R:=fun v=>v = .int .i64 (lifeC lb3 sW)) (L':=lb4) (p:=p) rfl ⟨rfl,rfl⟩ n3.stk (by simp only [go_sem]; exact LStep_N (by exact hl) n3.push i3 (stepOk_short (by decide))) ?_
 rintro v h5 rfl n4
 rw [lbD]
 simp (maxSteps:=999999) (disch:=omega) only [go_sem]
 refine W_callN (h0:=h) (R:=fun v=>v = .int .i64 (lifeC lb4 sC)) (L':=lb5) (p:=p) rfl ⟨rfl,rfl⟩ n4.stk (by simp only [go_sem]; exact LStep_N (by exact hl) n4.push i4 (stepOk_short (by decide))) ?_
 rintro v h6 rfl n5
 rw [lbE]
 obtain ⟨f,c,hA,_,_⟩:=id n5
 simp (maxSteps:=999999) (disch:=omega) only [go_sem,hA.li]
 refine W_callF (S:=[]) (R:=fun v h'=>SlF h6 h' v (listOf lb5.fl.now 0)) rfl ⟨rfl,rfl⟩ (by simp only [go_sem]; exact List_ok (f:=f) (c:=c) (a:=lb5.fl.now) (b:=lb5.fl.disk) (st:=lb5.fl.stamp) (by exact hl) (by simp only [go_sem,hA.fi]) (by simp only [go_sem,hA.ca])) (fun v h1 e=>e) ?_
 rintro v h7 hF7 hs
 have n7:=n5.same hF7
 rw [lbG] at hs
 obtain ⟨f,c,hA,_,_⟩:=id n7
 have hlv : fg v (.stk cx.lvl 44) = v:=by
  rcases hs with ⟨rfl,_⟩ | ⟨q,rfl,_⟩ <;> simp only [go_sem]
 simp (maxSteps:=999999) (disch:=omega) only [go_sem,hlv]
 refine W_callp rfl ⟨rfl,rfl⟩ (by simp only [go_sem]; exact SameTexts_ok (m:=[⟨#[97]⟩]) hs.xp (.inr ⟨_,rfl,below_stk _ _,by simp only [HP.push_look_own,go_sem]; rfl⟩) (by decide)) ?_
 simp (maxSteps:=999999) (disch:=omega) only [go_sem]
 refine W_callp rfl ⟨rfl,rfl⟩ (by simp only [go_sem]; exact Crashes_ok hA.push) ?_
 rw [lbN]
 simp (maxSteps:=999999) (disch:=omega) only [go_sem]
 refine W_callp rfl ⟨rfl,rfl⟩ (by simp only [go_sem]; exact Lost_ok hA.push) ?_
 rw [lbL.1,lbL.2.1,lbL.2.2]
 simp (maxSteps:=999999) (disch:=omega) only [go_sem]
 refine W_callN (h0:=h) (R:=fun v=>v = .int .i64 (lifeC lb5 sW99)) (L':=lifeF lb5 sW99) (p:=p) rfl ⟨rfl,rfl⟩ n7.stk (by simp only [go_sem]; exact LStep_N (by exact hl) n7.push i5 (stepOk_short (by decide))) ?_
 rintro v h8 rfl n8
 rw [lbF]
 obtain ⟨_,_,_,_,hF8⟩:=n8
 simp (maxSteps:=999999) (disch:=omega) only [go_sem]
 exact hF8
end
structure Ck (m : Img) : Prop where
 en : ∀ d s,d < 3 → s < 4 → m.ent d s = Ent.zero ∨ (¬(m.ent d s).name = ⟨#[]⟩ ∧ isName (m.ent d s).name = true ∧ 0 ≤ (m.ent d s).ino ∧ (m.ent d s).ino < 8 ∧ (m.ino (m.ent d s).ino.toNat).live = true ∧ (m.ino (m.ent d s).ino.toNat).stamp = (m.ent d s).stamp)
 un : ∀ d s t,d < 3 → s < 4 → t < 4 → ¬t = s → ¬(m.ent d s).name = ⟨#[]⟩ → ¬(m.ent d t).name = (m.ent d s).name
 li : ∀ n,n < 8 → (m.ino n).live = true → 1 ≤ (m.ino n).stamp ∧ (refs m n : Int) ≤ (m.ino n).links ∧ ∀ p,p < 2 → (m.ino n).prt p = -1 ∨ (0 ≤ (m.ino n).prt p ∧ (m.ino n).prt p < 9 ∧ (m.dat ((m.ino n).prt p).toNat).of = (m.ino n).stamp)
 de : ∀ n,n < 8 → (m.ino n).live = false → m.ino n = Ino.none
 st : ∀ n k,n < 8 → k < 8 → ¬n = k → (m.ino n).live = true → (m.ino k).live = true → ¬(m.ino n).stamp = (m.ino k).stamp
 pt : ∀ n k p q,n < 8 → k < 8 → p < 2 → q < 2 → (m.ino n).live = true → (m.ino k).live = true → 0 ≤ (m.ino n).prt p → (m.ino n).prt p = (m.ino k).prt q → n = k ∧ p = q
theorem Ck.of {m : Img} (hc : check m = 0) : Ck m:=by
 obtain ⟨h1,h2,h3⟩:=check_parts hc
 have h3' : ∀ n k,n < 8 → k < 8 → pairBad m n k = false:=by
  intro n k hn hk
  cases e : pairBad m n k with
  | false=>rfl
  | true=>rw [twice_at hn hk e] at h3; exact absurd h3 (by simp)
 refine ⟨fun d s hd hs=>?_,fun d s t hd hs ht hne hnm heq=>?_,fun n hn hl=>?_,fun n hn hl=>dead_none hc hn hl,fun n k hn hk hne hl hl' heq=>?_,fun n k p q hn hk hp hq hl hl' h0 heq=>?_⟩
 ·rcases entry_parts (h1 d hd s hs) with e | ⟨a1,a2,_,a4⟩
  ·exact .inl e
  ·exact .inr ⟨a1,a2,a4⟩
 ·rcases Nat.lt_or_ge t s with h | h
  ·rcases entry_parts (h1 d hd s hs) with e | ⟨_,_,a3,_⟩
   ·rw [e] at hnm; exact hnm rfl
   ·have:=anyN_false.1 a3 t h; simp [heq] at this
  ·rcases entry_parts (h1 d hd t ht) with e | ⟨_,_,a3,_⟩
   ·rw [← heq,e] at hnm; exact hnm rfl
   ·have:=anyN_false.1 a3 s (by omega); simp [heq] at this
 ·obtain ⟨a1,a2,a3⟩:=ino_parts hc hn hl
  exact ⟨a1,a2,fun p hp=>part_dat (a3 p hp)⟩
 ·have:=h3' n k hn hk
  simp [pairBad,hl,hl',hne,heq] at this
 ·have:=h3' n k hn hk
  simp only [pairBad,hl,hl',Bool.true_and,Bool.or_eq_false_iff] at this
  have:=anyN_false.1 (anyN_false.1 this.2 p hp) q hq
  simp only [partBad,h0,heq,decide_true,Bool.and_true] at this
  have h0' : 0 ≤ (m.ino k).prt q:=by rw [← heq]; exact h0
  simp [h0'] at this
  exact this
theorem Ck.check {m : Img} (h : Ck m) : check m = 0:=by
 refine check_of (fun d hd s hs=>?_) (fun n hn=>?_) ?_
 ·rcases h.en d s hd hs with e | ⟨a1,a2,a4,a5,a6,a7⟩
  ·simp [entryFault,e,show Ent.zero.name = ⟨#[]⟩ from rfl]
  ·exact entry_of a1 a2 (anyN_false.2 fun k hk=>by simpa using h.un d s k hd hs (by omega) (by omega) a1) a4 a5 a6 a7
 ·cases hl : (m.ino n).live with
  | true =>
   obtain ⟨a1,a2,a3⟩:=h.li n hn hl
   exact inoFault_of hl a1 a2 fun p hp=>partFault_of (a3 p hp)
  | false=>exact inoFault_dead (h.de n hn hl)
 ·rw [← twiceR_eq]
  refine anyN_false.2 fun n hn=>anyN_false.2 fun k hk=>?_
  cases hl : (m.ino n).live with
  | false=>simp [pairBad,hl]
  | true =>
   cases hl' : (m.ino k).live with
   | false=>simp [pairBad,hl']
   | true =>
    simp only [pairBad,hl,hl',Bool.true_and,Bool.or_eq_false_iff]
    refine ⟨?_,anyN_false.2 fun p hp=>anyN_false.2 fun q hq=>?_⟩
    ·by_cases e : n = k
     ·simp [e]
     ·simp [h.st n k hn hk e hl hl']
    ·by_cases h0 : 0 ≤ (m.ino n).prt p
     ·by_cases he : (m.ino n).prt p = (m.ino k).prt q
      ·obtain ⟨rfl,rfl⟩:=h.pt n k p q hn hk hp hq hl hl' h0 he
       simp [partBad]
      ·simp [partBad,he]
     ·simp [partBad,h0]
structure Ex1 (m : Img) (o : Nat) : Prop where
 ck : Ck m
 ln : ∀ n,n < 8 → (m.ino n).live = true → (m.ino n).links = refs m n
 rf : ∀ n,n < 8 → ¬n = o → (m.ino n).live = true → ¬refs m n = 0
theorem Ex1.of {m : Img} (h : exact m = true) (o : Nat) : Ex1 m o:=by
 obtain ⟨hc,hx⟩:=exact_parts h
 exact ⟨.of hc,fun n hn hl=>(hx n hn hl).2,fun n hn _ hl=>(hx n hn hl).1⟩
theorem exact_of {m : Img} (hc : Ck m) (h : ∀ n,n < 8 → (m.ino n).live = true → ¬refs m n = 0 ∧ (m.ino n).links = refs m n) : exact m = true:=by
 simp only [exact,hc.check,decide_true,Bool.and_true,Bool.not_eq_true']
 refine anyN_false.2 fun n hn=>?_
 cases hl : (m.ino n).live with
 | false=>simp
 | true=>obtain ⟨a,b⟩:=h n hn hl; simp [a,b]
theorem refs_other {m : Img} {d s : Nat} {y : Ent} (hd : d < 3) (hs : s < 4) (hn : (m.ent d s).name = ⟨#[]⟩) (i : Int) : refs (m.setEnt d s y) i = refs m i + b2n (leadsE y i):=by
 have:=refs_set (m:=m) (y:=y) hd hs i
 have e : leads m d s i = false:=by simp [leads,hn]
 rw [e] at this
 simpa [b2n] using this.symm
theorem refs_setIno (m : Img) (n : Nat) (y : Ino) (i : Int) : refs (m.setIno n y) i = refs m i:=rfl
theorem slot_none {m : Img} {d : Int} {s : Str} (d0 : 0 ≤ d) (d3 : d < 3) (hs : ¬s = ⟨#[]⟩) (h : slotOf m d s < 0) : ∀ t,t < 4 → ¬(m.ent d.toNat t).name = s:=by
 rcases slotOf_cases m d s with e | ⟨k,_,e,_⟩
 ·unfold slotOf at e
  rw [if_neg (by simp only [not_or]; exact ⟨by omega,by omega,hs⟩)] at e
  intro t ht
  have:=findN_neg e t ht
  simpa using this
 ·omega
theorem isName_ne {s : Str} (h : isName s = true) : ¬s = ⟨#[]⟩:=by
 simp [isName] at h; exact h.1.1
theorem exact_add {m : Img} {d k n : Nat} {name : Str} (h : Ex1 m n) (hd : d < 3) (hk : k < 4) (hn : n < 8) (hl : (m.ino n).live = true) (he : (m.ent d k).name = ⟨#[]⟩) (hname : isName name = true)
  (hu : ∀ t,t < 4 → ¬(m.ent d t).name = name) : exact (addName m d k name n) = true:=by
 have hne:=isName_ne hname
 have l12:=refs_le m n
 have hw : IntKind.i64.wrap ((m.ino n).links + 1) = (m.ino n).links + 1:=by rw [h.ln n hn hl]; exact wrap64 (by omega) (by omega)
 have hent:=ent_addName m d k name n
 have hino : ∀ j,j < 8 → (addName m d k name n).ino j = if n = j then { m.ino n with links:=(m.ino n).links + 1 } else m.ino j:=fun j hj=>by
  simp only [addName,ino_setIno,ino_setEnt,hw,hj,and_true]
 have hdat : ∀ x,(addName m d k name n).dat x = m.dat x:=fun x=>by simp only [addName,dat_setIno,dat_setEnt]
 have hlv : ∀ j,j < 8 → ((addName m d k name n).ino j).live = (m.ino j).live ∧ ((addName m d k name n).ino j).stamp = (m.ino j).stamp ∧ ∀ p,((addName m d k name n).ino j).prt p = (m.ino j).prt p:=fun j hj=>by
  rw [hino j hj]
  split
  ·rename_i e; subst e; exact ⟨rfl,rfl,fun p=>rfl⟩
  ·exact ⟨rfl,rfl,fun _=>rfl⟩
 have hrf : ∀ i : Int,refs (addName m d k name n) i = refs m i + b2n (decide ((n : Int) = i)):=fun i=>by
  rw [addName,refs_setIno,refs_other hd hk he]
  simp [leadsE,hne]
 generalize addName m d k name n = X at *
 refine exact_of ⟨fun d' s' hd' hs'=>?_,fun d' s' t' hd' hs' ht' hne' hnm=>?_,fun j hj hlj=>?_,fun j hj hlj=>?_,fun i j hi hj hne' h1 h2=>?_,fun i j p q hi hj hp hq h1 h2 h0 heq=>?_⟩ fun j hj hlj=>?_
 ·rw [hent]
  split
  ·right
   dsimp only
   refine ⟨hne,hname,by omega,by omega,?_,?_⟩
   ·rw [Int.toNat_natCast,(hlv n hn).1]; exact hl
   ·rw [Int.toNat_natCast]; exact (hlv n hn).2.1
  ·rcases h.ck.en d' s' hd' hs' with e | ⟨a1,a2,a4,a5,a6,a7⟩
   ·exact .inl e
   ·have hb : (m.ent d' s').ino.toNat < 8:=by omega
    exact .inr ⟨a1,a2,a4,a5,by rw [(hlv _ hb).1]; exact a6,by rw [(hlv _ hb).2.1]; exact a7⟩
 ·rw [hent,hent] at *
  by_cases c1 : (d = d' ∧ k = t') ∧ d' < 3 ∧ t' < 4
  ·rw [if_pos c1]
   by_cases c2 : (d = d' ∧ k = s') ∧ d' < 3 ∧ s' < 4
   ·exact absurd (c1.1.2.symm.trans c2.1.2) hne'
   ·rw [if_neg c2]
    have:=hu s' hs'
    rw [c1.1.1] at this
    exact fun e=>this e.symm
  ·rw [if_neg c1]
   by_cases c2 : (d = d' ∧ k = s') ∧ d' < 3 ∧ s' < 4
   ·rw [if_pos c2]
    have:=hu t' ht'
    rw [c2.1.1] at this
    exact this
   ·rw [if_neg c2] at hnm ⊢
    exact h.ck.un d' s' t' hd' hs' ht' hne' hnm
 ·obtain ⟨e1,e2,e3⟩:=hlv j hj
  rw [e1] at hlj
  obtain ⟨a1,a2,a3⟩:=h.ck.li j hj hlj
  refine ⟨by rw [e2]; exact a1,?_,fun p hp=>?_⟩
  ·rw [hrf,hino j hj]
   by_cases c : n = j
   ·subst c; simp [b2n]; omega
   ·have : ¬((n : Int) = (j : Int)):=by omega
    simp [b2n,c,this]; omega
  ·rw [e3,e2,hdat]; exact a3 p hp
 ·obtain ⟨e1,_⟩:=hlv j hj
  rw [e1] at hlj
  rw [hino j hj,if_neg (by rintro rfl; rw [hl] at hlj; simp at hlj)]
  exact h.ck.de j hj hlj
 ·obtain ⟨e1,e2,_⟩:=hlv i hi
  obtain ⟨f1,f2,_⟩:=hlv j hj
  rw [e1] at h1; rw [f1] at h2; rw [e2,f2]
  exact h.ck.st i j hi hj hne' h1 h2
 ·obtain ⟨e1,_,e3⟩:=hlv i hi
  obtain ⟨f1,_,f3⟩:=hlv j hj
  rw [e1] at h1; rw [f1] at h2; rw [e3] at h0; rw [e3,f3] at heq
  exact h.ck.pt i j p q hi hj hp hq h1 h2 h0 heq
 ·obtain ⟨e1,_⟩:=hlv j hj
  rw [e1] at hlj
  have hlk:=h.ln j hj hlj
  rw [hrf,hino j hj]
  by_cases c : n = j
  ·subst c; simp [b2n]; omega
  ·have h1 : ¬((n : Int) = (j : Int)):=by omega
   have:=h.rf j hj (fun e=>c e.symm) hlj
   simp [b2n,c,h1]; omega
theorem exact_leave {m : Img} {d s : Nat} (h : exact m = true) (hd : d < 3) (hs : s < 4) (hnm : ¬(m.ent d s).name = ⟨#[]⟩) : exact (dropName m d s) = true:=by
 obtain ⟨hc0,hx⟩:=exact_parts h
 have hc:=Ck.of hc0
 rcases hc.en d s hd hs with e | ⟨_,_,i0,i8,hl,hst⟩
 ·rw [e] at hnm; exact absurd rfl hnm
 obtain ⟨n,hn⟩ : ∃ n : Nat,(m.ent d s).ino = n:=⟨(m.ent d s).ino.toNat,by omega⟩
 have n8 : n < 8:=by omega
 have en : (m.ent d s).ino.toNat = n:=by omega
 rw [en] at hl hst
 have hrf : ∀ i : Int,refs (m.setEnt d s .zero) i + b2n (leads m d s i) = refs m i:=fun i=>(refs_drop hd hs i).symm
 have hdr : ∀ i : Int,leads m d s i = decide ((n : Int) = i):=fun i=>by simp [leads,hnm,hn]
 have r12:=refs_le m n
 obtain ⟨hr0,hlk⟩:=hx n n8 hl
 have hw : IntKind.i64.wrap ((m.ino n).links - 1) = (m.ino n).links - 1:=by rw [hlk]; exact wrap64 (by omega) (by omega)
 have hself:=hrf n
 rw [hdr n] at hself
 simp [b2n] at hself
 -- what it is
 have key : ∃ X : Img,dropName m d s = X ∧ (∀ d' s',X.ent d' s' = if d = d' ∧ s = s' then Ent.zero else m.ent d' s') ∧ (∀ x,X.dat x = m.dat x) ∧ (∀ i : Int,refs X i + b2n (decide ((n : Int) = i)) = refs m i) ∧
   (∀ j,j < 8 → ¬n = j → X.ino j = m.ino j) ∧ ((refs X n = 0 ∧ X.ino n = Ino.none) ∨ (¬refs X n = 0 ∧ X.ino n = { m.ino n with links:=(m.ino n).links - 1 })):=by
  refine ⟨_,rfl,?_⟩
  unfold dropName
  simp only [en,hw]
  by_cases c : (m.ino n).links - 1 = 0
  ·rw [if_pos c]
   refine ⟨fun d' s'=>by rw [ent_setIno,ent_drop hd hs],fun x=>by simp only [dat_setIno,dat_setEnt],fun i=>by rw [refs_setIno,← hdr]; exact hrf i,fun j hj hne=>by rw [ino_setIno,if_neg (fun h=>hne h.1),ino_setEnt],.inl ⟨?_,?_⟩⟩
   ·rw [refs_setIno]; omega
   ·rw [ino_setIno,if_pos ⟨rfl,n8⟩]
  ·rw [if_neg c]
   refine ⟨fun d' s'=>by rw [ent_setIno,ent_drop hd hs],fun x=>by simp only [dat_setIno,dat_setEnt],fun i=>by rw [refs_setIno,← hdr]; exact hrf i,fun j hj hne=>by rw [ino_setIno,if_neg (fun h=>hne h.1),ino_setEnt],.inr ⟨?_,?_⟩⟩
   ·rw [refs_setIno]; omega
   ·rw [ino_setIno,if_pos ⟨rfl,n8⟩]
 obtain ⟨X,hX,hent,hdat,href,hoth,hthis⟩:=key
 rw [hX]
 -- a live inode is as it was,but for its count
 have hlv : ∀ j,j < 8 → (X.ino j).live = true → (m.ino j).live = true ∧ (X.ino j).stamp = (m.ino j).stamp ∧ (∀ p,(X.ino j).prt p = (m.ino j).prt p) ∧ (X.ino j).links = refs X j ∧ ¬refs X j = 0:=fun j hj hl'=>by
  by_cases c : n = j
  ·subst c
   rcases hthis with ⟨_,e⟩ | ⟨e0,e⟩
   ·rw [e] at hl'; exact absurd hl' (by decide)
   ·refine ⟨hl,by rw [e],fun p=>by rw [e]; exact prt_with _ _ _,?_,e0⟩
    rw [e]
    have:=href n
    simp [b2n] at this
    show (m.ino n).links - 1 = _
    omega
  ·rw [hoth j hj c] at hl' ⊢
   obtain ⟨a1,a2⟩:=hx j hj hl'
   have:=href j
   have h1 : ¬((n : Int) = (j : Int)):=by omega
   simp [b2n,h1] at this
   exact ⟨hl',rfl,fun _=>rfl,by omega,by omega⟩
 refine exact_of ⟨fun d' s' hd' hs'=>?_,fun d' s' t' hd' hs' ht' hne' hnm'=>?_,fun j hj hlj=>?_,fun j hj hlj=>?_,fun i j hi hj hne' h1 h2=>?_,fun i j p q hi hj hp hq h1 h2 h0 heq=>?_⟩ fun j hj hlj=>⟨(hlv j hj hlj).2.2.2.2,(hlv j hj hlj).2.2.2.1⟩
 ·rw [hent]
  split
  ·exact .inl rfl
  ·rename_i hne
   rcases hc.en d' s' hd' hs' with e | ⟨a1,a2,a4,a5,a6,a7⟩
   ·exact .inl e
   ·right
    have hb : (m.ent d' s').ino.toNat < 8:=by omega
    by_cases c : n = (m.ent d' s').ino.toNat
    ·rcases hthis with ⟨e0,_⟩ | ⟨_,e⟩
     ·exfalso
      have hl1 : leads X d' s' n = true:=by
       simp only [leads]
       rw [hent,if_neg hne]
       have : (m.ent d' s').ino = (n : Int):=by omega
       simp [a1,this]
      have:=refs_pos hd' hs' hl1
      omega
     ·exact ⟨a1,a2,a4,a5,by rw [← c,e]; exact hl,by rw [← c,e]; show (m.ino n).stamp = _; rw [c]; exact a7⟩
    ·exact ⟨a1,a2,a4,a5,by rw [hoth _ hb c]; exact a6,by rw [hoth _ hb c]; exact a7⟩
 ·rw [hent,hent] at *
  by_cases c1 : d = d' ∧ s = t'
  ·rw [if_pos c1]
   by_cases c2 : d = d' ∧ s = s'
   ·rw [if_pos c2] at hnm'; exact absurd rfl hnm'
   ·rw [if_neg c2] at hnm' ⊢
    exact fun e=>hnm' (by rw [← e]; rfl)
  ·rw [if_neg c1]
   by_cases c2 : d = d' ∧ s = s'
   ·rw [if_pos c2] at hnm'; exact absurd rfl hnm'
   ·rw [if_neg c2] at hnm' ⊢
    exact hc.un d' s' t' hd' hs' ht' hne' hnm'
 ·obtain ⟨e1,e2,e3,e4,e5⟩:=hlv j hj hlj
  obtain ⟨a1,a2,a3⟩:=hc.li j hj e1
  exact ⟨by rw [e2]; exact a1,by rw [e4]; exact Int.le_refl _,fun p hp=>by rw [e3,e2,hdat]; exact a3 p hp⟩
 ·by_cases c : n = j
  ·subst c
   rcases hthis with ⟨_,e⟩ | ⟨_,e⟩
   ·exact e
   ·rw [e] at hlj; rw [show ({ m.ino n with links:=(m.ino n).links - 1 } : Ino).live = (m.ino n).live from rfl,hl] at hlj; exact absurd hlj (by simp)
  ·rw [hoth j hj c] at hlj ⊢; exact hc.de j hj hlj
 ·obtain ⟨e1,e2,_⟩:=hlv i hi h1
  obtain ⟨f1,f2,_⟩:=hlv j hj h2
  rw [e2,f2]
  exact hc.st i j hi hj hne' e1 f1
 ·obtain ⟨e1,_,e3,_⟩:=hlv i hi h1
  obtain ⟨f1,_,f3,_⟩:=hlv j hj h2
  rw [e3] at h0; rw [e3,f3] at heq
  exact hc.pt i j p q hi hj hp hq e1 f1 h0 heq
theorem ex1_new {m : Img} {n : Nat} {st : Int} (h : exact m = true) (n8 : n < 8) (hd : (m.ino n).live = false) (hs : 1 ≤ st) (hmax : ∀ j,j < 8 → (m.ino j).live = true → (m.ino j).stamp < st) : Ex1 (m.setIno n (newIno st)) n:=by
 obtain ⟨hc0,hx⟩:=exact_parts h
 have hc:=Ck.of hc0
 have r0:=dead_refs hc0 n8 hd
 have hino : ∀ j,j < 8 → (m.setIno n (newIno st)).ino j = if n = j then newIno st else m.ino j:=fun j hj=>by rw [ino_setIno]; simp [hj]
 have hp1 : ∀ p,p < 2 → (newIno st).prt p = -1:=fun p hp=>by rw [prt_new]; simp [Ino.prt,Ino.none,hp]
 refine ⟨⟨fun d' s' hd' hs'=>?_,hc.un,fun j hj hlj=>?_,fun j hj hlj=>?_,fun i j hi hj hne' h1 h2=>?_,fun i j p q hi hj hp hq h1 h2 h0 heq=>?_⟩,fun j hj hlj=>?_,fun j hj hne hlj=>?_⟩
 ·rw [ent_setIno]
  rcases hc.en d' s' hd' hs' with e | ⟨a1,a2,a4,a5,a6,a7⟩
  ·exact .inl e
  ·have hb : (m.ent d' s').ino.toNat < 8:=by omega
   have hne : ¬n = (m.ent d' s').ino.toNat:=by rintro e; rw [← e,hd] at a6; exact absurd a6 (by simp)
   exact .inr ⟨a1,a2,a4,a5,by rw [hino _ hb,if_neg hne]; exact a6,by rw [hino _ hb,if_neg hne]; exact a7⟩
 ·rw [refs_setIno]
  rw [hino j hj] at hlj ⊢
  split at hlj
  ·rename_i e
   subst e
   rw [if_pos rfl,r0]
   exact ⟨hs,Int.le_refl _,fun p hp=>.inl (hp1 p hp)⟩
  ·rename_i e; rw [if_neg e]; exact hc.li j hj hlj
 ·rw [hino j hj] at hlj ⊢
  split at hlj
  ·exact absurd hlj (by simp [newIno])
  ·rename_i e; rw [if_neg e]; exact hc.de j hj hlj
 ·rw [hino i hi] at h1 ⊢; rw [hino j hj] at h2 ⊢
  split at h1 <;> split at h2
  ·omega
  ·rename_i e1 e2; rw [if_pos e1,if_neg e2]; have:=hmax j hj h2; show ¬st = _; omega
  ·rename_i e1 e2; rw [if_neg e1,if_pos e2]; have:=hmax i hi h1; show ¬_ = st; omega
  ·rename_i e1 e2; rw [if_neg e1,if_neg e2]; exact hc.st i j hi hj hne' h1 h2
 ·rw [hino i hi] at h1 h0 heq; rw [hino j hj] at h2 heq
  by_cases e1 : n = i
  ·rw [if_pos e1,hp1 p hp] at h0; omega
  ·rw [if_neg e1] at h1 h0 heq
   by_cases e2 : n = j
   ·rw [if_pos e2,hp1 q hq] at heq; omega
   ·rw [if_neg e2] at h2 heq
    exact hc.pt i j p q hi hj hp hq h1 h2 h0 heq
 ·rw [refs_setIno]
  rw [hino j hj] at hlj ⊢
  split at hlj
  ·rename_i e; subst e; rw [if_pos rfl,r0]; rfl
  ·rename_i e; rw [if_neg e]; exact (hx j hj hlj).2
 ·rw [refs_setIno]
  rw [hino j hj] at hlj
  rw [if_neg (fun e=>hne e.symm)] at hlj
  exact (hx j hj hlj).1
theorem exact_part {m : Img} {n p : Nat} {x : Int} {y : Dat} (h : exact m = true) (n8 : n < 8) (p2 : p < 2) (hl : (m.ino n).live = true) (hx : x = -1 ∨ (0 ≤ x ∧ x < 9 ∧ y.of = (m.ino n).stamp ∧ ∀ k q,k < 8 → q < 2 → (m.ino k).live = true → (m.ino k).prt q = x → k = n ∧ q = p)) :
  exact (if x = -1 then m.setIno n ((m.ino n).setPrt p x) else (m.setIno n ((m.ino n).setPrt p x)).setDat x.toNat y) = true:=by
 obtain ⟨hc0,hxx⟩:=exact_parts h
 have hc:=Ck.of hc0
 obtain ⟨X,hX,hent,hino,hdat⟩ : ∃ X : Img,(if x = -1 then m.setIno n ((m.ino n).setPrt p x) else (m.setIno n ((m.ino n).setPrt p x)).setDat x.toNat y) = X ∧ (∀ d s,X.ent d s = m.ent d s) ∧ (∀ j,j < 8 → X.ino j = if n = j then (m.ino n).setPrt p x else m.ino j) ∧
   (∀ z : Nat,z < 9 → X.dat z = if x = z then y else m.dat z):=by
  refine ⟨_,rfl,?_⟩
  by_cases e : x = -1
  ·rw [if_pos e]
   exact ⟨fun _ _=>rfl,fun j hj=>by rw [ino_setIno]; simp [hj],fun z hz=>by rw [dat_setIno,if_neg (by omega)]⟩
  ·rw [if_neg e]
   refine ⟨fun _ _=>rfl,fun j hj=>by rw [ino_setDat,ino_setIno]; simp [hj],fun z hz=>?_⟩
   rw [dat_setDat,dat_setIno]
   have : (x.toNat = z ∧ z < 9) = (x = z):=by apply propext; constructor <;> intro h <;> omega
   simp only [this]
 rw [hX]
 have hrf : ∀ i : Int,refs X i = refs m i:=fun i=>refs_congr hent i
 have hlv : ∀ j,j < 8 → (X.ino j).live = (m.ino j).live ∧ (X.ino j).stamp = (m.ino j).stamp ∧ (X.ino j).links = (m.ino j).links:=fun j hj=>by
  rw [hino j hj]; split
  ·rename_i e; subst e; exact ⟨rfl,rfl,rfl⟩
  ·exact ⟨rfl,rfl,rfl⟩
 have hprt : ∀ j q,j < 8 → q < 2 → (X.ino j).prt q = if n = j ∧ p = q then x else (m.ino j).prt q:=fun j q hj hq=>by
  rw [hino j hj]
  by_cases e : n = j
  ·subst e; rw [if_pos rfl,prt_setPrt]; simp [hq]
  ·rw [if_neg e,if_neg (fun h=>e h.1)]
 refine exact_of ⟨fun d' s' hd' hs'=>?_,fun d' s' t' hd' hs' ht' hne' hnm'=>?_,fun j hj hlj=>?_,fun j hj hlj=>?_,fun i j hi hj hne' h1 h2=>?_,fun i j p' q' hi hj hp hq h1 h2 h0 heq=>?_⟩ fun j hj hlj=>?_
 ·rw [hent]
  rcases hc.en d' s' hd' hs' with e | ⟨a1,a2,a4,a5,a6,a7⟩
  ·exact .inl e
  ·have hb : (m.ent d' s').ino.toNat < 8:=by omega
   exact .inr ⟨a1,a2,a4,a5,by rw [(hlv _ hb).1]; exact a6,by rw [(hlv _ hb).2.1]; exact a7⟩
 ·rw [hent,hent] at *; exact hc.un d' s' t' hd' hs' ht' hne' hnm'
 ·obtain ⟨e1,e2,e3⟩:=hlv j hj
  rw [e1] at hlj
  obtain ⟨a1,a2,a3⟩:=hc.li j hj hlj
  refine ⟨by rw [e2]; exact a1,by rw [e3,hrf]; exact a2,fun q hq=>?_⟩
  rw [hprt j q hj hq,e2]
  split
  ·rename_i e
   obtain ⟨rfl,rfl⟩:=e
   rcases hx with hx | ⟨x0,x9,hof,_⟩
   ·exact .inl hx
   ·right
    refine ⟨x0,x9,?_⟩
    rw [hdat _ (by omega),if_pos (by omega)]
    exact hof
  ·rename_i e
   rcases a3 q hq with a | ⟨a,b,c⟩
   ·exact .inl a
   ·right
    refine ⟨a,b,?_⟩
    rw [hdat _ (by omega)]
    split
    ·rename_i e'
     rcases hx with hx | ⟨x0,x9,hof,hun⟩
     ·omega
     ·obtain ⟨rfl,rfl⟩:=hun j q hj hq hlj (by omega)
      exact absurd ⟨rfl,rfl⟩ e
    ·exact c
 ·obtain ⟨e1,_⟩:=hlv j hj
  rw [e1] at hlj
  rw [hino j hj,if_neg (by rintro rfl; rw [hl] at hlj; exact absurd hlj (by simp))]
  exact hc.de j hj hlj
 ·obtain ⟨e1,e2,_⟩:=hlv i hi
  obtain ⟨f1,f2,_⟩:=hlv j hj
  rw [e1] at h1; rw [f1] at h2; rw [e2,f2]
  exact hc.st i j hi hj hne' h1 h2
 ·obtain ⟨e1,_⟩:=hlv i hi
  obtain ⟨f1,_⟩:=hlv j hj
  rw [e1] at h1; rw [f1] at h2
  rw [hprt i p' hi hp] at h0 heq
  rw [hprt j q' hj hq] at heq
  by_cases c1 : n = i ∧ p = p'
  ·obtain ⟨rfl,rfl⟩:=c1
   rw [if_pos ⟨rfl,rfl⟩] at h0 heq
   by_cases c2 : n = j ∧ p = q'
   ·exact ⟨c2.1,c2.2⟩
   ·rw [if_neg c2] at heq
    rcases hx with hx | ⟨_,_,_,hun⟩
    ·omega
    ·obtain ⟨rfl,rfl⟩:=hun j q' hj hq h2 heq.symm
     exact absurd ⟨rfl,rfl⟩ c2
  ·rw [if_neg c1] at h0 heq
   by_cases c2 : n = j ∧ p = q'
   ·obtain ⟨rfl,rfl⟩:=c2
    rw [if_pos ⟨rfl,rfl⟩] at heq
    rcases hx with hx | ⟨_,_,_,hun⟩
    ·omega
    ·obtain ⟨rfl,rfl⟩:=hun i p' hi hp h1 heq
     exact absurd ⟨rfl,rfl⟩ c1
   ·rw [if_neg c2] at heq
    exact hc.pt i j p' q' hi hj hp hq h1 h2 h0 heq
 ·obtain ⟨e1,_,e3⟩:=hlv j hj
  rw [e1] at hlj
  rw [hrf,e3]
  exact hxx j hj hlj
end Go.Mini
