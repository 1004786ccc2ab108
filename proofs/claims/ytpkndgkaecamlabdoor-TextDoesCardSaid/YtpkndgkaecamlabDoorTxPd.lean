/- A part of the proof: what Tx computes, step by step. -/
import Derived.Test.YtpkndgkaecamlabDoorTxPc
import Derived.ChangeSame
import Derived.Carry
import Derived.OpenShut
import Derived.ProofKit
import Derived.WalkKit
import Derived.Deep.Slices
import Derived.Deep.Fields1
import Derived.Lib.ItoaLen
import Derived.Deep.MidRow

set_option linter.unusedVariables false
set_option linter.unusedSimpArgs false
set_option maxHeartbeats 4000000
set_option maxRecDepth 100000
set_option linter.unusedSectionVars false
set_option linter.unnecessarySimpa false
namespace Go.Mini
namespace Fn
@[reducible] noncomputable def text_Print.r0 : List MOp:=[⟨some 1,.load false none tImage (.s 0),none⟩,⟨some 2,.prim pPrint [(.s 1)],none⟩]
@[reducible] noncomputable def text_Print.body : MC:=(.seq (.reg false text_Print.r0 []) .ret)
@[reducible] noncomputable def text_Print : MFun:={ params:=1,nfree:=0,res:=[.tmp 2],body:=text_Print.body }
@[reducible] def r_TextOf.r0 : List MOp:=[⟨some 2,.mov (.c (.str ⟨#[]⟩)),none⟩]
@[reducible] def r_TextOf.r1 : List MOp:=[⟨some 3,.mov (.c (.str ⟨#[]⟩)),none⟩]
@[reducible] def r_TextOf.r2 : List MOp:=[⟨some 4,.mov (.c (.int .i64 0)),none⟩]
@[reducible] def r_TextOf.r3 : List MOp:=[⟨some 10,.mov (.s 4),none⟩,⟨some 11,.bin .lss (.s 10) (.c (.int .i64 8)),none⟩]
@[reducible] def r_TextOf.r4 : List MOp:=[⟨some 12,.mov (.s 4),none⟩,⟨some 13,.bin .add (.s 12) (.c (.int .i64 1)),none⟩,⟨some 4,.mov (.s 13),none⟩]
@[reducible] def r_TextOf.r5 : List MOp:=[⟨some 14,.mov (.s 0),none⟩,⟨some 15,.mov (.s 4),none⟩,⟨some 16,.nilck (.s 14),none⟩,⟨some 17,.fld tImage 0 tInodes (.s 16),none⟩,⟨some 18,.idx 8 tInode (.s 17) (.s 15),none⟩,⟨some 19,.load false none tInode (.s 18),none⟩,⟨some 5,.alloc false tInode,none⟩,⟨none,.store tInode [] (.s 5) (.s 19),none⟩]
@[reducible] def r_TextOf.r6 : List MOp:=[⟨some 20,.fld tInode 0 tB (.s 5),none⟩,⟨some 21,.load false none tB (.s 20),none⟩]
@[reducible] def r_TextOf.r7 : List MOp:=[⟨some 22,.mov (.s 3),none⟩,⟨some 23,.mov (.s 4),none⟩,⟨some 24,.call true [] 347 [(.s 23)],none⟩,⟨some 25,.bin .add (.c (.str ⟨#[105,110,111,100,101,32]⟩)) (.s 24),none⟩,⟨some 26,.bin .add (.s 25) (.c (.str ⟨#[32]⟩)),none⟩,⟨some 27,.fld tInode 1 tI (.s 5),none⟩,⟨some 28,.load false none tI (.s 27),none⟩,⟨some 29,.call true [] 347 [(.s 28)],none⟩,⟨some 30,.bin .add (.s 26) (.s 29),none⟩,⟨some 31,.bin .add (.s 30) (.c (.str ⟨#[32]⟩)),none⟩,⟨some 32,.fld tInode 2 tI (.s 5),none⟩,⟨some 33,.load false none tI (.s 32),none⟩,⟨some 34,.call true [] 347 [(.s 33)],none⟩,⟨some 35,.bin .add (.s 31) (.s 34),none⟩,⟨some 36,.bin .add (.s 35) (.c (.str ⟨#[32]⟩)),none⟩,⟨some 37,.fld tInode 3 tParts (.s 5),none⟩,⟨some 38,.idx 2 tI (.s 37) (.c (.int .i64 0)),none⟩,⟨some 39,.load false none tI (.s 38),none⟩,⟨some 40,.call true [] 347 [(.s 39)],none⟩,⟨some 41,.bin .add (.s 36) (.s 40),none⟩,⟨some 42,.bin .add (.s 41) (.c (.str ⟨#[32]⟩)),none⟩,⟨some 43,.fld tInode 3 tParts (.s 5),none⟩,⟨some 44,.idx 2 tI (.s 43) (.c (.int .i64 1)),none⟩,⟨some 45,.load false none tI (.s 44),none⟩,⟨some 46,.call false [] 347 [(.s 45)],none⟩,⟨some 47,.bin .add (.s 42) (.s 46),none⟩,⟨some 48,.bin .add (.s 47) (.c (.str ⟨#[10]⟩)),none⟩,⟨some 49,.bin .add (.s 22) (.s 48),none⟩,⟨some 3,.mov (.s 49),none⟩]
@[reducible] def r_TextOf.r8 : List MOp:=[⟨some 6,.mov (.c (.int .i64 0)),none⟩]
@[reducible] def r_TextOf.r9 : List MOp:=[⟨some 50,.mov (.s 6),none⟩,⟨some 51,.bin .lss (.s 50) (.c (.int .i64 3)),none⟩]
@[reducible] def r_TextOf.r10 : List MOp:=[⟨some 52,.mov (.s 6),none⟩,⟨some 53,.bin .add (.s 52) (.c (.int .i64 1)),none⟩,⟨some 6,.mov (.s 53),none⟩]
@[reducible] def r_TextOf.r11 : List MOp:=[⟨some 7,.mov (.c (.int .i64 0)),none⟩]
@[reducible] def r_TextOf.r12 : List MOp:=[⟨some 54,.mov (.s 7),none⟩,⟨some 55,.bin .lss (.s 54) (.c (.int .i64 4)),none⟩]
@[reducible] def r_TextOf.r13 : List MOp:=[⟨some 56,.mov (.s 7),none⟩,⟨some 57,.bin .add (.s 56) (.c (.int .i64 1)),none⟩,⟨some 7,.mov (.s 57),none⟩]
@[reducible] def r_TextOf.r14 : List MOp:=[⟨some 58,.mov (.s 0),none⟩,⟨some 59,.mov (.s 6),none⟩,⟨some 60,.mov (.s 7),none⟩,⟨some 61,.nilck (.s 58),none⟩,⟨some 62,.fld tImage 1 tDirs (.s 61),none⟩,⟨some 63,.idx 3 tRow (.s 62) (.s 59),none⟩,⟨some 64,.idx 4 tEntry (.s 63) (.s 60),none⟩,⟨some 65,.load false none tEntry (.s 64),none⟩,⟨some 8,.alloc false tEntry,none⟩,⟨none,.store tEntry [] (.s 8) (.s 65),none⟩]
@[reducible] def r_TextOf.r15 : List MOp:=[⟨some 66,.fld tEntry 0 tS (.s 8),none⟩,⟨some 67,.load false none tS (.s 66),none⟩,⟨some 68,.bin .neq (.s 67) (.c (.str ⟨#[]⟩)),none⟩]
@[reducible] def r_TextOf.r16 : List MOp:=[⟨some 69,.mov (.s 3),none⟩,⟨some 70,.mov (.s 6),none⟩,⟨some 71,.call true [] 347 [(.s 70)],none⟩,⟨some 72,.bin .add (.c (.str ⟨#[101,110,116,114,121,32]⟩)) (.s 71),none⟩,⟨some 73,.bin .add (.s 72) (.c (.str ⟨#[32]⟩)),none⟩,⟨some 74,.mov (.s 7),none⟩,⟨some 75,.call true [] 347 [(.s 74)],none⟩,⟨some 76,.bin .add (.s 73) (.s 75),none⟩,⟨some 77,.bin .add (.s 76) (.c (.str ⟨#[32]⟩)),none⟩,⟨some 78,.fld tEntry 0 tS (.s 8),none⟩,⟨some 79,.load false none tS (.s 78),none⟩,⟨some 80,.bin .add (.s 77) (.s 79),none⟩,⟨some 81,.bin .add (.s 80) (.c (.str ⟨#[32]⟩)),none⟩,⟨some 82,.fld tEntry 1 tI (.s 8),none⟩,⟨some 83,.load false none tI (.s 82),none⟩,⟨some 84,.call true [] 347 [(.s 83)],none⟩,⟨some 85,.bin .add (.s 81) (.s 84),none⟩,⟨some 86,.bin .add (.s 85) (.c (.str ⟨#[32]⟩)),none⟩,⟨some 87,.fld tEntry 2 tI (.s 8),none⟩,⟨some 88,.load false none tI (.s 87),none⟩,⟨some 89,.call true [] 347 [(.s 88)],none⟩,⟨some 90,.bin .add (.s 86) (.s 89),none⟩,⟨some 91,.bin .add (.s 90) (.c (.str ⟨#[10]⟩)),none⟩,⟨some 92,.bin .add (.s 69) (.s 91),none⟩,⟨some 3,.mov (.s 92),none⟩]
@[reducible] def r_TextOf.r17 : List MOp:=[⟨some 9,.mov (.c (.int .i64 0)),none⟩]
@[reducible] def r_TextOf.r18 : List MOp:=[⟨some 93,.mov (.s 9),none⟩,⟨some 94,.bin .lss (.s 93) (.c (.int .i64 9)),none⟩]
@[reducible] def r_TextOf.r19 : List MOp:=[⟨some 95,.mov (.s 9),none⟩,⟨some 96,.bin .add (.s 95) (.c (.int .i64 1)),none⟩,⟨some 9,.mov (.s 96),none⟩]
@[reducible] def r_TextOf.r20 : List MOp:=[⟨some 97,.mov (.s 0),none⟩,⟨some 98,.mov (.s 9),none⟩,⟨some 99,.nilck (.s 97),none⟩,⟨some 100,.fld tImage 2 tDatas (.s 99),none⟩,⟨some 101,.idx 9 tData (.s 100) (.s 98),none⟩,⟨some 102,.fld tData 0 tI (.s 101),none⟩,⟨some 103,.load false none tI (.s 102),none⟩,⟨some 104,.bin .neq (.s 103) (.c (.int .i64 0)),none⟩]
@[reducible] def r_TextOf.r21 : List MOp:=[⟨some 105,.mov (.s 3),none⟩,⟨some 106,.mov (.s 9),none⟩,⟨some 107,.call true [] 347 [(.s 106)],none⟩,⟨some 108,.bin .add (.c (.str ⟨#[100,97,116,97,32]⟩)) (.s 107),none⟩,⟨some 109,.bin .add (.s 108) (.c (.str ⟨#[32]⟩)),none⟩,⟨some 110,.mov (.s 0),none⟩,⟨some 111,.mov (.s 9),none⟩,⟨some 112,.nilck (.s 110),none⟩,⟨some 113,.fld tImage 2 tDatas (.s 112),none⟩,⟨some 114,.idx 9 tData (.s 113) (.s 111),none⟩,⟨some 115,.fld tData 0 tI (.s 114),none⟩,⟨some 116,.load false none tI (.s 115),none⟩,⟨some 117,.call true [] 347 [(.s 116)],none⟩,⟨some 118,.bin .add (.s 109) (.s 117),none⟩,⟨some 119,.bin .add (.s 118) (.c (.str ⟨#[32]⟩)),none⟩,⟨some 120,.mov (.s 0),none⟩,⟨some 121,.mov (.s 9),none⟩,⟨some 122,.nilck (.s 120),none⟩,⟨some 123,.fld tImage 2 tDatas (.s 122),none⟩,⟨some 124,.idx 9 tData (.s 123) (.s 121),none⟩,⟨some 125,.fld tData 1 tS (.s 124),none⟩,⟨some 126,.load false none tS (.s 125),none⟩,⟨some 127,.call false [] 343 [(.s 126)],none⟩,⟨some 128,.bin .add (.s 119) (.s 127),none⟩,⟨some 129,.bin .add (.s 128) (.c (.str ⟨#[10]⟩)),none⟩,⟨some 130,.bin .add (.s 105) (.s 129),none⟩,⟨some 3,.mov (.s 130),none⟩]
@[reducible] def r_TextOf.r22 : List MOp:=[⟨some 131,.mov (.s 3),none⟩,⟨some 2,.mov (.s 131),none⟩]
@[reducible] def r_TextOf.body : MC:=(.seq (.reg false r_TextOf.r0 [2]) (.seq (.reg false r_TextOf.r1 []) (.seq (.seq (.reg false r_TextOf.r2 []) (.block 0 (.loop [0,3,4] [] (.seq (.seq (.reg false r_TextOf.r3 [10]) (.cond (.s 11) .skip (.exit 0))) (.seq (.block 1 (.seq (.reg false r_TextOf.r5 [14,15,16,17,18,19]) (.seq (.reg false r_TextOf.r6 [20]) (.cond (.s 21) (.reg true r_TextOf.r7 [5,22,23,24,25,26,27,28,29,30,31,32,33,34,35,36,37,38,39,40,41,42,43,44,45,46,47,48,49]) .skip)))) (.reg false r_TextOf.r4 [12,13])))))) (.seq (.seq (.reg false r_TextOf.r8 []) (.block 2 (.loop [0,3,6] [] (.seq (.seq (.reg false r_TextOf.r9 [50]) (.cond (.s 51) .skip (.exit 2))) (.seq (.block 3 (.seq (.reg false r_TextOf.r11 []) (.block 4 (.loop [0,3,6,7] [] (.seq (.seq (.reg false r_TextOf.r12 [54]) (.cond (.s 55) .skip (.exit 4))) (.seq (.block 5 (.seq (.reg false r_TextOf.r14 [58,59,60,61,62,63,64,65]) (.seq (.reg false r_TextOf.r15 [66,67]) (.cond (.s 68) (.reg true r_TextOf.r16 [8,69,70,71,72,73,74,75,76,77,78,79,80,81,82,83,84,85,86,87,88,89,90,91,92]) .skip)))) (.reg false r_TextOf.r13 [56,57]))))))) (.reg false r_TextOf.r10 [52,53])))))) (.seq (.seq (.reg false r_TextOf.r17 []) (.block 6 (.loop [0,3,9] [] (.seq (.seq (.reg false r_TextOf.r18 [93]) (.cond (.s 94) .skip (.exit 6))) (.seq (.block 7 (.seq (.reg false r_TextOf.r20 [97,98,99,100,101,102,103]) (.cond (.s 104) (.reg true r_TextOf.r21 [105,106,107,108,109,110,111,112,113,114,115,116,117,118,119,120,121,122,123,124,125,126,127,128,129,130]) .skip))) (.reg false r_TextOf.r19 [95,96])))))) (.seq (.reg false r_TextOf.r22 [3,131]) .ret))))))
@[reducible] def r_TextOf : MFun:={ params:=1,nfree:=0,res:=[.tmp 2],body:=r_TextOf.body }
@[reducible] def text_Show.r0 : List MOp:=[⟨some 2,.mov (.c (.str ⟨#[]⟩)),none⟩]
@[reducible] def text_Show.r1 : List MOp:=[⟨some 6,.bslice true tU8 1 [(0,(.c (.int .u8 61)))],none⟩,⟨some 3,.mov (.s 6),none⟩]
@[reducible] def text_Show.r2 : List MOp:=[⟨some 7,.mov (.s 0),none⟩,⟨some 8,.len true (.s 7),none⟩,⟨some 9,.mov (.c (.int .i64 0)),none⟩]
@[reducible] def text_Show.r3 : List MOp:=[⟨some 10,.bin .lss (.s 9) (.s 8),none⟩]
@[reducible] def text_Show.r4 : List MOp:=[⟨some 11,.mov (.s 9),none⟩,⟨some 4,.mov (.s 11),none⟩]
@[reducible] def text_Show.r5 : List MOp:=[⟨some 12,.mov (.s 0),none⟩,⟨some 13,.mov (.s 4),none⟩,⟨some 14,.stridx (.s 12) (.s 13),none⟩,⟨some 5,.mov (.s 14),none⟩]
@[reducible] def text_Show.r6 : List MOp:=[⟨some 15,.mov (.s 5),none⟩,⟨some 16,.bin .gtr (.s 15) (.c (.int .u8 32)),none⟩,⟨some 17,.mov (.s 16),none⟩,⟨some 18,.mov (.s 5),some (17,true)⟩,⟨some 19,.bin .lss (.s 18) (.c (.int .u8 127)),some (17,true)⟩,⟨some 20,.pick (.s 17) (.s 19) (.c (.bool false)),none⟩,⟨some 21,.mov (.s 20),none⟩,⟨some 22,.mov (.s 5),some (21,true)⟩,⟨some 23,.bin .neq (.s 22) (.c (.int .u8 92)),some (21,true)⟩,⟨some 24,.pick (.s 21) (.s 23) (.c (.bool false)),none⟩]
@[reducible] def text_Show.r7 : List MOp:=[⟨some 25,.mov (.s 3),none⟩,⟨some 26,.mov (.s 5),none⟩,⟨some 27,.bslice false tU8 1 [(0,(.s 26))],none⟩,⟨some 28,.append true [] tU8 (.s 25) (.s 27),none⟩,⟨some 3,.mov (.s 28),none⟩]
@[reducible] def text_Show.r8 : List MOp:=[⟨some 29,.mov (.s 3),none⟩,⟨some 30,.mov (.s 5),none⟩,⟨some 31,.bin .shr (.s 30) (.c (.int .u64 4)),none⟩,⟨some 32,.stridx (.c (.str ⟨#[48,49,50,51,52,53,54,55,56,57,97,98,99,100,101,102]⟩)) (.s 31),none⟩,⟨some 33,.mov (.s 5),none⟩,⟨some 34,.bin .and (.s 33) (.c (.int .u8 15)),none⟩,⟨some 35,.stridx (.c (.str ⟨#[48,49,50,51,52,53,54,55,56,57,97,98,99,100,101,102]⟩)) (.s 34),none⟩,⟨some 36,.bslice false tU8 3 [(0,(.c (.int .u8 92))),(1,(.s 32)),(2,(.s 35))],none⟩,⟨some 37,.append true [] tU8 (.s 29) (.s 36),none⟩,⟨some 3,.mov (.s 37),none⟩]
@[reducible] def text_Show.r9 : List MOp:=[⟨some 38,.bin .add (.s 9) (.c (.int .i64 1)),none⟩,⟨some 9,.mov (.s 38),none⟩]
@[reducible] def text_Show.r10 : List MOp:=[⟨some 39,.mov (.s 3),none⟩,⟨some 40,.tostr (.s 39),none⟩,⟨some 2,.mov (.s 40),none⟩]
@[reducible] def text_Show.body : MC:=(.seq (.reg false text_Show.r0 [2]) (.seq (.reg false text_Show.r1 [6]) (.seq (.seq (.reg false text_Show.r2 [7]) (.block 0 (.loop [0,3,8,9] [6,8,28,37] (.seq (.reg false text_Show.r3 []) (.seq (.cond (.s 10) .skip (.exit 0)) (.seq (.block 1 (.seq (.reg false text_Show.r4 [11]) (.seq (.reg false text_Show.r5 [4,12,13,14]) (.seq (.reg false text_Show.r6 [15,16,17,18,19,20,21,22,23]) (.cond (.s 24) (.reg false text_Show.r7 [5,25,26,27,28]) (.reg true text_Show.r8 [5,29,30,31,32,33,34,35,36,37])))))) (.reg false text_Show.r9 [38]))))))) (.seq (.reg false text_Show.r10 [3,39,40]) .ret))))
@[reducible] def text_Show : MFun:={ params:=1,nfree:=0,res:=[.tmp 2],body:=text_Show.body }
@[reducible] def r_Shown.r0 : List MOp:=[⟨some 2,.mov (.c (.str ⟨#[]⟩)),none⟩]
@[reducible] def r_Shown.r1 : List MOp:=[⟨some 3,.mov (.c (.str ⟨#[48,49,50,51,52,53,54,55,56,57,97,98,99,100,101,102]⟩)),none⟩]
@[reducible] def r_Shown.r2 : List MOp:=[⟨some 4,.mov (.c (.str ⟨#[61]⟩)),none⟩]
@[reducible] def r_Shown.r3 : List MOp:=[⟨some 5,.mov (.c (.int .i64 0)),none⟩]
@[reducible] def r_Shown.r4 : List MOp:=[⟨some 7,.mov (.s 5),none⟩,⟨some 8,.mov (.s 0),none⟩,⟨some 9,.len true (.s 8),none⟩,⟨some 10,.bin .lss (.s 7) (.s 9),none⟩]
@[reducible] def r_Shown.r5 : List MOp:=[⟨some 11,.mov (.s 5),none⟩,⟨some 12,.bin .add (.s 11) (.c (.int .i64 1)),none⟩,⟨some 5,.mov (.s 12),none⟩]
@[reducible] def r_Shown.r6 : List MOp:=[⟨some 13,.mov (.s 0),none⟩,⟨some 14,.mov (.s 5),none⟩,⟨some 15,.stridx (.s 13) (.s 14),none⟩,⟨some 16,.conv .i64 (.s 15),none⟩,⟨some 6,.mov (.s 16),none⟩]
@[reducible] def r_Shown.r7 : List MOp:=[⟨some 17,.mov (.s 6),none⟩,⟨some 18,.bin .geq (.s 17) (.c (.int .i64 33)),none⟩,⟨some 19,.mov (.s 18),none⟩,⟨some 20,.mov (.s 6),some (19,true)⟩,⟨some 21,.bin .leq (.s 20) (.c (.int .i64 126)),some (19,true)⟩,⟨some 22,.pick (.s 19) (.s 21) (.c (.bool false)),none⟩,⟨some 23,.mov (.s 22),none⟩,⟨some 24,.mov (.s 6),some (23,true)⟩,⟨some 25,.bin .neq (.s 24) (.c (.int .i64 92)),some (23,true)⟩,⟨some 26,.pick (.s 23) (.s 25) (.c (.bool false)),none⟩]
@[reducible] def r_Shown.r8 : List MOp:=[⟨some 27,.mov (.s 4),none⟩,⟨some 28,.mov (.s 0),none⟩,⟨some 29,.mov (.s 5),none⟩,⟨some 30,.mov (.s 5),none⟩,⟨some 31,.bin .add (.s 30) (.c (.int .i64 1)),none⟩,⟨some 32,.strsl (.s 28) (some (.s 29)) (some (.s 31)),none⟩,⟨some 33,.bin .add (.s 27) (.s 32),none⟩,⟨some 4,.mov (.s 33),none⟩]
@[reducible] def r_Shown.r9 : List MOp:=[⟨some 34,.mov (.s 4),none⟩,⟨some 35,.mov (.s 3),none⟩,⟨some 36,.mov (.s 6),none⟩,⟨some 37,.bin .quo (.s 36) (.c (.int .i64 16)),none⟩,⟨some 38,.mov (.s 6),none⟩,⟨some 39,.bin .quo (.s 38) (.c (.int .i64 16)),none⟩,⟨some 40,.bin .add (.s 39) (.c (.int .i64 1)),none⟩,⟨some 41,.strsl (.s 35) (some (.s 37)) (some (.s 40)),none⟩,⟨some 42,.bin .add (.c (.str ⟨#[92]⟩)) (.s 41),none⟩,⟨some 43,.mov (.s 3),none⟩,⟨some 44,.mov (.s 6),none⟩,⟨some 45,.bin .rem (.s 44) (.c (.int .i64 16)),none⟩,⟨some 46,.mov (.s 6),none⟩,⟨some 47,.bin .rem (.s 46) (.c (.int .i64 16)),none⟩,⟨some 48,.bin .add (.s 47) (.c (.int .i64 1)),none⟩,⟨some 49,.strsl (.s 43) (some (.s 45)) (some (.s 48)),none⟩,⟨some 50,.bin .add (.s 42) (.s 49),none⟩,⟨some 51,.bin .add (.s 34) (.s 50),none⟩,⟨some 4,.mov (.s 51),none⟩]
@[reducible] def r_Shown.r10 : List MOp:=[⟨some 52,.mov (.s 4),none⟩,⟨some 2,.mov (.s 52),none⟩]
@[reducible] def r_Shown.body : MC:=(.seq (.reg false r_Shown.r0 [2]) (.seq (.reg false r_Shown.r1 []) (.seq (.reg false r_Shown.r2 []) (.seq (.seq (.reg false r_Shown.r3 []) (.block 0 (.loop [0,3,4,5] [] (.seq (.seq (.reg false r_Shown.r4 [7,8,9]) (.cond (.s 10) .skip (.exit 0))) (.seq (.block 1 (.seq (.reg false r_Shown.r6 [13,14,15,16]) (.seq (.reg false r_Shown.r7 [17,18,19,20,21,22,23,24,25]) (.cond (.s 26) (.reg false r_Shown.r8 [27,28,29,30,31,32,33]) (.reg true r_Shown.r9 [6,34,35,36,37,38,39,40,41,42,43,44,45,46,47,48,49,50,51]))))) (.reg false r_Shown.r5 [11,12])))))) (.seq (.reg false r_Shown.r10 [4,52]) .ret)))))
@[reducible] def r_Shown : MFun:={ params:=1,nfree:=0,res:=[.tmp 2],body:=r_Shown.body }
@[reducible] def r_Meant.r0 : List MOp:=[⟨some 2,.mov (.c (.str ⟨#[]⟩)),none⟩,⟨some 3,.mov (.c (.bool false)),none⟩]
@[reducible] def r_Meant.r1 : List MOp:=[⟨some 9,.mov (.s 0),none⟩,⟨some 10,.len true (.s 9),none⟩,⟨some 11,.bin .eql (.s 10) (.c (.int .i64 0)),none⟩,⟨some 12,.mov (.s 11),none⟩,⟨some 13,.mov (.s 0),some (12,false)⟩,⟨some 14,.stridx (.s 13) (.c (.int .i64 0)),some (12,false)⟩,⟨some 15,.bin .neq (.s 14) (.c (.int .u8 61)),some (12,false)⟩,⟨some 16,.pick (.s 12) (.c (.bool true)) (.s 15),none⟩]
@[reducible] def r_Meant.r2 : List MOp:=[⟨some 2,.mov (.c (.str ⟨#[]⟩)),none⟩,⟨some 3,.mov (.c (.bool false)),none⟩]
@[reducible] def r_Meant.r3 : List MOp:=[⟨some 4,.mov (.c (.str ⟨#[]⟩)),none⟩]
@[reducible] def r_Meant.r4 : List MOp:=[⟨some 5,.mov (.c (.int .i64 1)),none⟩]
@[reducible] def r_Meant.r5 : List MOp:=[⟨some 17,.mov (.s 5),none⟩,⟨some 18,.mov (.s 0),none⟩,⟨some 19,.len true (.s 18),none⟩,⟨some 20,.bin .lss (.s 17) (.s 19),none⟩]
@[reducible] def r_Meant.r6 : List MOp:=[⟨some 6,.mov (.c (.bool false)),none⟩]
@[reducible] def r_Meant.r7 : List MOp:=[⟨some 7,.mov (.c (.int .i64 0)),none⟩]
@[reducible] def r_Meant.r8 : List MOp:=[⟨some 21,.mov (.s 7),none⟩,⟨some 22,.bin .lss (.s 21) (.c (.int .i64 256)),none⟩,⟨some 23,.mov (.s 22),none⟩,⟨some 24,.mov (.s 6),some (23,true)⟩,⟨some 25,.un .not (.s 24),some (23,true)⟩,⟨some 26,.pick (.s 23) (.s 25) (.c (.bool false)),none⟩]
@[reducible] def r_Meant.r9 : List MOp:=[⟨some 27,.mov (.s 7),none⟩,⟨some 28,.bin .add (.s 27) (.c (.int .i64 1)),none⟩,⟨some 7,.mov (.s 28),none⟩]
@[reducible] def r_Meant.r10 : List MOp:=[⟨some 29,.mov (.s 7),none⟩,⟨some 30,.conv .u8 (.s 29),none⟩,⟨some 31,.bslice false tU8 1 [(0,(.s 30))],none⟩,⟨some 32,.tostr (.s 31),none⟩,⟨some 33,.call false [] 343 [(.s 32)],none⟩,⟨some 34,.strsl (.s 33) (some (.c (.int .i64 1))) none,none⟩,⟨some 8,.mov (.s 34),none⟩]
@[reducible] def r_Meant.r11 : List MOp:=[⟨some 35,.mov (.s 5),none⟩,⟨some 36,.mov (.s 8),none⟩,⟨some 37,.len true (.s 36),none⟩,⟨some 38,.bin .add (.s 35) (.s 37),none⟩,⟨some 39,.mov (.s 0),none⟩,⟨some 40,.len true (.s 39),none⟩,⟨some 41,.bin .leq (.s 38) (.s 40),none⟩,⟨some 42,.mov (.s 41),none⟩,⟨some 43,.mov (.s 0),some (42,true)⟩,⟨some 44,.mov (.s 5),some (42,true)⟩,⟨some 45,.mov (.s 5),some (42,true)⟩,⟨some 46,.mov (.s 8),some (42,true)⟩,⟨some 47,.len true (.s 46),some (42,true)⟩,⟨some 48,.bin .add (.s 45) (.s 47),some (42,true)⟩,⟨some 49,.strsl (.s 43) (some (.s 44)) (some (.s 48)),some (42,true)⟩,⟨some 50,.mov (.s 8),some (42,true)⟩,⟨some 51,.bin .eql (.s 49) (.s 50),some (42,true)⟩,⟨some 52,.pick (.s 42) (.s 51) (.c (.bool false)),none⟩]
@[reducible] def r_Meant.r12 : List MOp:=[⟨some 53,.mov (.s 4),none⟩,⟨some 54,.mov (.s 7),none⟩,⟨some 55,.conv .u8 (.s 54),none⟩,⟨some 56,.bslice false tU8 1 [(0,(.s 55))],none⟩,⟨some 57,.tostr (.s 56),none⟩,⟨some 58,.bin .add (.s 53) (.s 57),none⟩,⟨some 4,.mov (.s 58),none⟩]
@[reducible] def r_Meant.r13 : List MOp:=[⟨some 59,.mov (.s 5),none⟩,⟨some 60,.mov (.s 8),none⟩,⟨some 61,.len true (.s 60),none⟩,⟨some 62,.bin .add (.s 59) (.s 61),none⟩,⟨some 5,.mov (.s 62),none⟩]
@[reducible] def r_Meant.r14 : List MOp:=[⟨some 6,.mov (.c (.bool true)),none⟩]
@[reducible] def r_Meant.r15 : List MOp:=[⟨some 63,.mov (.s 6),none⟩,⟨some 64,.un .not (.s 63),none⟩]
@[reducible] def r_Meant.r16 : List MOp:=[⟨some 2,.mov (.c (.str ⟨#[]⟩)),none⟩,⟨some 3,.mov (.c (.bool false)),none⟩]
@[reducible] def r_Meant.r17 : List MOp:=[⟨some 65,.mov (.s 4),none⟩,⟨some 2,.mov (.s 65),none⟩,⟨some 3,.mov (.c (.bool true)),none⟩]
@[reducible] def r_Meant.body : MC:=(.seq (.reg false r_Meant.r0 [2,3]) (.seq (.seq (.reg false r_Meant.r1 [9,10,11,12,13,14,15]) (.cond (.s 16) (.seq (.reg false r_Meant.r2 []) .ret) .skip)) (.seq (.reg false r_Meant.r3 []) (.seq (.reg false r_Meant.r4 []) (.seq (.block 0 (.loop [0,4,5] [] (.seq (.seq (.reg false r_Meant.r5 [17,18,19]) (.cond (.s 20) .skip (.exit 0))) (.block 1 (.seq (.reg false r_Meant.r6 []) (.seq (.seq (.reg false r_Meant.r7 []) (.block 2 (.loop [0,4,5,6,7] [] (.seq (.seq (.reg false r_Meant.r8 [21,22,23,24,25]) (.cond (.s 26) .skip (.exit 2))) (.seq (.block 3 (.seq (.reg false r_Meant.r10 [29,30,31,32,33,34]) (.seq (.reg false r_Meant.r11 [35,36,37,38,39,40,41,42,43,44,45,46,47,48,49,50,51]) (.cond (.s 52) (.seq (.reg false r_Meant.r12 [53,54,55,56,57,58]) (.seq (.reg false r_Meant.r13 [8,59,60,61,62]) (.reg false r_Meant.r14 []))) .skip)))) (.reg false r_Meant.r9 [27,28])))))) (.seq (.reg false r_Meant.r15 [6,63]) (.cond (.s 64) (.seq (.reg false r_Meant.r16 []) .ret) .skip)))))))) (.seq (.reg false r_Meant.r17 [4,65]) .ret))))))
@[reducible] def r_Meant : MFun:={ params:=1,nfree:=0,res:=[.tmp 2,.tmp 3],body:=r_Meant.body }
@[reducible] def text_Mean.r0 : List MOp:=[⟨some 2,.mov (.c (.str ⟨#[]⟩)),none⟩,⟨some 3,.mov (.c (.bool false)),none⟩]
@[reducible] def text_Mean.r1 : List MOp:=[⟨some 11,.mov (.s 0),none⟩,⟨some 12,.call false [] 349 [(.s 11),(.c (.str ⟨#[61]⟩))],none⟩,⟨some 10,.mov (.s 12),none⟩,⟨some 13,.ext (.s 10) 0,none⟩,⟨some 14,.ext (.s 10) 1,none⟩,⟨some 4,.mov (.s 13),none⟩,⟨some 5,.mov (.s 14),none⟩]
@[reducible] def text_Mean.r2 : List MOp:=[⟨some 15,.mov (.s 5),none⟩,⟨some 16,.un .not (.s 15),none⟩]
@[reducible] def text_Mean.r3 : List MOp:=[⟨some 2,.mov (.c (.str ⟨#[]⟩)),none⟩,⟨some 3,.mov (.c (.bool false)),none⟩]
@[reducible] def text_Mean.r4 : List MOp:=[⟨some 6,.mov (.c .nilsl),none⟩]
@[reducible] def text_Mean.r5 : List MOp:=[⟨some 17,.mov (.s 4),none⟩,⟨some 18,.bin .neq (.s 17) (.c (.str ⟨#[]⟩)),none⟩]
@[reducible] def text_Mean.r6 : List MOp:=[⟨some 19,.mov (.s 4),none⟩,⟨some 20,.stridx (.s 19) (.c (.int .i64 0)),none⟩,⟨some 7,.mov (.s 20),none⟩]
@[reducible] def text_Mean.r7 : List MOp:=[⟨some 21,.mov (.s 4),none⟩,⟨some 22,.strsl (.s 21) (some (.c (.int .i64 1))) none,none⟩,⟨some 4,.mov (.s 22),none⟩]
@[reducible] def text_Mean.r8 : List MOp:=[⟨some 23,.mov (.s 7),none⟩,⟨some 24,.bin .eql (.s 23) (.c (.int .u8 92)),none⟩]
@[reducible] def text_Mean.r9 : List MOp:=[⟨some 25,.mov (.s 4),none⟩,⟨some 26,.len true (.s 25),none⟩,⟨some 27,.bin .lss (.s 26) (.c (.int .i64 2)),none⟩]
@[reducible] def text_Mean.r10 : List MOp:=[⟨some 2,.mov (.c (.str ⟨#[]⟩)),none⟩,⟨some 3,.mov (.c (.bool false)),none⟩]
@[reducible] def text_Mean.r11 : List MOp:=[⟨some 29,.mov (.s 4),none⟩,⟨some 30,.strsl (.s 29) none (some (.c (.int .i64 2))),none⟩,⟨some 31,.call false [] 348 [(.s 30),(.c (.int .i64 16)),(.c (.int .i64 8))],none⟩,⟨some 28,.mov (.s 31),none⟩,⟨some 32,.ext (.s 28) 0,none⟩,⟨some 33,.ext (.s 28) 1,none⟩,⟨some 8,.mov (.s 32),none⟩,⟨some 9,.mov (.s 33),none⟩]
@[reducible] def text_Mean.r12 : List MOp:=[⟨some 34,.mov (.s 9),none⟩,⟨some 35,.eqif true (.s 34) (.c (.iface false)),none⟩]
@[reducible] def text_Mean.r13 : List MOp:=[⟨some 2,.mov (.c (.str ⟨#[]⟩)),none⟩,⟨some 3,.mov (.c (.bool false)),none⟩]
@[reducible] def text_Mean.r14 : List MOp:=[⟨some 36,.mov (.s 8),none⟩,⟨some 37,.conv .u8 (.s 36),none⟩,⟨some 38,.mov (.s 4),none⟩,⟨some 39,.strsl (.s 38) (some (.c (.int .i64 2))) none,none⟩,⟨some 7,.mov (.s 37),none⟩,⟨some 4,.mov (.s 39),none⟩]
@[reducible] def text_Mean.r15 : List MOp:=[⟨some 40,.mov (.s 6),none⟩,⟨some 41,.mov (.s 7),none⟩,⟨some 42,.bslice false tU8 1 [(0,(.s 41))],none⟩,⟨some 43,.append false [] tU8 (.s 40) (.s 42),none⟩,⟨some 6,.mov (.s 43),none⟩]
@[reducible] def text_Mean.r16 : List MOp:=[⟨some 44,.mov (.s 6),none⟩,⟨some 45,.tostr (.s 44),none⟩,⟨some 46,.call false [] 342 [(.s 45)],none⟩,⟨some 47,.mov (.s 0),none⟩,⟨some 48,.bin .neq (.s 46) (.s 47),none⟩]
@[reducible] def text_Mean.r17 : List MOp:=[⟨some 2,.mov (.c (.str ⟨#[]⟩)),none⟩,⟨some 3,.mov (.c (.bool false)),none⟩]
@[reducible] def text_Mean.r18 : List MOp:=[⟨some 49,.mov (.s 6),none⟩,⟨some 50,.tostr (.s 49),none⟩,⟨some 2,.mov (.s 50),none⟩,⟨some 3,.mov (.c (.bool true)),none⟩]
@[reducible] def text_Mean.body : MC:=(.seq (.reg false text_Mean.r0 [2,3]) (.seq (.reg false text_Mean.r1 [10,11,12,13,14]) (.seq (.seq (.reg false text_Mean.r2 [5,15]) (.cond (.s 16) (.seq (.reg false text_Mean.r3 []) .ret) .skip)) (.seq (.reg false text_Mean.r4 []) (.seq (.block 0 (.loop [0,4,6] [43] (.seq (.seq (.reg false text_Mean.r5 [17]) (.cond (.s 18) .skip (.exit 0))) (.block 1 (.seq (.reg false text_Mean.r6 [19,20]) (.seq (.reg false text_Mean.r7 [21,22]) (.seq (.seq (.reg false text_Mean.r8 [23]) (.cond (.s 24) (.seq (.seq (.reg false text_Mean.r9 [25,26]) (.cond (.s 27) (.seq (.reg false text_Mean.r10 []) .ret) .skip)) (.seq (.reg false text_Mean.r11 [28,29,30,31,32,33]) (.seq (.seq (.reg false text_Mean.r12 [9,34]) (.cond (.s 35) (.seq (.reg false text_Mean.r13 []) .ret) .skip)) (.reg true text_Mean.r14 [8,36,37,38,39])))) .skip)) (.reg false text_Mean.r15 [7,40,41,42,43])))))))) (.seq (.seq (.reg false text_Mean.r16 [0,44,45,46,47]) (.cond (.s 48) (.seq (.reg false text_Mean.r17 []) .ret) .skip)) (.seq (.reg false text_Mean.r18 [6,49,50]) .ret)))))))
@[reducible] def text_Mean : MFun:={ params:=1,nfree:=0,res:=[.tmp 2,.tmp 3],body:=text_Mean.body }
@[reducible] def w_textBegun.r0 : List MOp:=[⟨some 0,.mov (.c (.bool false)),none⟩]
@[reducible] def w_textBegun.r1 : List MOp:=[⟨some 6,.call false [] 29 [],none⟩,⟨some 1,.alloc false tImage,none⟩,⟨none,.store tImage [] (.s 1) (.s 6),none⟩]
@[reducible] def w_textBegun.r2 : List MOp:=[⟨some 8,.call false [] 345 [(.c (.str ⟨#[61,97,92,50,48]⟩))],none⟩,⟨some 7,.mov (.s 8),none⟩,⟨some 9,.ext (.s 7) 0,none⟩,⟨some 10,.ext (.s 7) 1,none⟩,⟨some 2,.mov (.s 9),none⟩,⟨some 3,.mov (.s 10),none⟩]
@[reducible] def w_textBegun.r3 : List MOp:=[⟨some 12,.call false [] 345 [(.c (.str ⟨#[97]⟩))],none⟩,⟨some 11,.mov (.s 12),none⟩,⟨some 13,.ext (.s 11) 0,none⟩,⟨some 14,.ext (.s 11) 1,none⟩,⟨some 4,.mov (.s 13),none⟩,⟨some 5,.mov (.s 14),none⟩]
@[reducible] def w_textBegun.r4 : List MOp:=[⟨some 15,.call false [] 340 [(.s 1)],none⟩,⟨some 16,.bin .eql (.s 15) (.c (.str ⟨#[105,110,111,100,101,32,50,32,53,32,49,32,45,49,32,51,10,101,110,116,114,121,32,49,32,50,32,97,32,50,32,53,10,100,97,116,97,32,51,32,53,32,61,120,10]⟩)),none⟩,⟨some 17,.mov (.s 16),none⟩,⟨some 18,.mov (.s 3),some (17,true)⟩,⟨some 19,.pick (.s 17) (.s 18) (.c (.bool false)),none⟩,⟨some 20,.mov (.s 19),none⟩,⟨some 21,.mov (.s 5),some (20,true)⟩,⟨some 22,.un .not (.s 21),some (20,true)⟩,⟨some 23,.pick (.s 20) (.s 22) (.c (.bool false)),none⟩,⟨some 24,.mov (.s 23),none⟩,⟨some 25,.mov (.s 2),some (24,true)⟩,⟨some 26,.bin .eql (.s 25) (.c (.str ⟨#[97,32]⟩)),some (24,true)⟩,⟨some 27,.pick (.s 24) (.s 26) (.c (.bool false)),none⟩,⟨some 28,.mov (.s 27),none⟩,⟨some 29,.call false [] 342 [(.c (.str ⟨#[97,32]⟩))],some (28,true)⟩,⟨some 30,.bin .eql (.s 29) (.c (.str ⟨#[61,97,92,50,48]⟩)),some (28,true)⟩,⟨some 31,.pick (.s 28) (.s 30) (.c (.bool false)),none⟩,⟨some 0,.mov (.s 31),none⟩]
@[reducible] def w_textBegun.body : MC:=(.seq (.reg false w_textBegun.r0 [0]) (.seq (.reg false w_textBegun.r1 [6]) (.seq (.reg false w_textBegun.r2 [7,8,9,10]) (.seq (.reg false w_textBegun.r3 [4,11,12,13,14]) (.seq (.reg false w_textBegun.r4 [1,2,3,5,15,16,17,18,19,20,21,22,23,24,25,26,27,28,29,30,31]) .ret)))))
@[reducible] def w_textBegun : MFun:={ params:=0,nfree:=0,res:=[.tmp 0],body:=w_textBegun.body }
@[reducible] def r_num.r0 : List MOp:=[⟨some 2,.mov (.c (.str ⟨#[]⟩)),none⟩]
@[reducible] def r_num.r1 : List MOp:=[⟨some 3,.mov (.s 0),none⟩,⟨some 4,.call false [] 350 [(.s 3)],none⟩,⟨some 2,.mov (.s 4),none⟩]
@[reducible] def r_num.body : MC:=(.seq (.reg false r_num.r0 [2]) (.seq (.reg false r_num.r1 [0,3,4]) .ret))
@[reducible] def r_num : MFun:={ params:=1,nfree:=0,res:=[.tmp 2],body:=r_num.body }
@[reducible] noncomputable def strconv_ParseUint.r0 : List MOp:=[⟨some 3,.prim pPu [(.s 0),(.s 1),(.s 2)],none⟩,⟨some 4,.prim pPe [(.s 0),(.s 1),(.s 2)],none⟩]
@[reducible] noncomputable def strconv_ParseUint.body : MC:=(.seq (.reg false strconv_ParseUint.r0 []) .ret)
@[reducible] noncomputable def strconv_ParseUint : MFun:={ params:=3,nfree:=0,res:=[.tmp 3,.tmp 4],body:=strconv_ParseUint.body }
@[reducible] def strings_CutPrefix.r0 : List MOp:=[⟨some 4,.mov (.c (.str ⟨#[]⟩)),none⟩,⟨some 5,.mov (.c (.bool false)),none⟩]
@[reducible] def strings_CutPrefix.r1 : List MOp:=[⟨some 6,.mov (.s 0),none⟩,⟨some 7,.mov (.s 1),none⟩,⟨some 8,.call false [] 351 [(.s 6),(.s 7)],none⟩,⟨some 9,.ext (.s 8) 0,none⟩,⟨some 10,.ext (.s 8) 1,none⟩,⟨some 4,.mov (.s 9),none⟩,⟨some 5,.mov (.s 10),none⟩]
@[reducible] def strings_CutPrefix.body : MC:=(.seq (.reg false strings_CutPrefix.r0 [4,5]) (.seq (.reg false strings_CutPrefix.r1 [0,1,6,7,8,9,10]) .ret))
@[reducible] def strings_CutPrefix : MFun:={ params:=2,nfree:=0,res:=[.tmp 4,.tmp 5],body:=strings_CutPrefix.body }
@[reducible] noncomputable def strconv_Itoa.r0 : List MOp:=[⟨some 1,.prim pItoa [(.s 0)],none⟩]
@[reducible] noncomputable def strconv_Itoa.body : MC:=(.seq (.reg false strconv_Itoa.r0 []) .ret)
@[reducible] noncomputable def strconv_Itoa : MFun:={ params:=1,nfree:=0,res:=[.tmp 1],body:=strconv_Itoa.body }
@[reducible] def internal_stringslite_CutPrefix.r0 : List MOp:=[⟨some 4,.mov (.c (.str ⟨#[]⟩)),none⟩,⟨some 5,.mov (.c (.bool false)),none⟩]
@[reducible] def internal_stringslite_CutPrefix.r1 : List MOp:=[⟨some 6,.mov (.s 0),none⟩,⟨some 7,.mov (.s 1),none⟩,⟨some 8,.call false [] 352 [(.s 6),(.s 7)],none⟩,⟨some 9,.un .not (.s 8),none⟩]
@[reducible] def internal_stringslite_CutPrefix.r2 : List MOp:=[⟨some 10,.mov (.s 0),none⟩,⟨some 4,.mov (.s 10),none⟩,⟨some 5,.mov (.c (.bool false)),none⟩]
@[reducible] def internal_stringslite_CutPrefix.r3 : List MOp:=[⟨some 11,.mov (.s 0),none⟩,⟨some 12,.mov (.s 1),none⟩,⟨some 13,.len true (.s 12),none⟩,⟨some 14,.strsl (.s 11) (some (.s 13)) none,none⟩,⟨some 4,.mov (.s 14),none⟩,⟨some 5,.mov (.c (.bool true)),none⟩]
@[reducible] def internal_stringslite_CutPrefix.body : MC:=(.seq (.reg false internal_stringslite_CutPrefix.r0 [4,5]) (.seq (.seq (.reg false internal_stringslite_CutPrefix.r1 [6,7,8]) (.cond (.s 9) (.seq (.reg false internal_stringslite_CutPrefix.r2 [0,10]) .ret) .skip)) (.seq (.reg false internal_stringslite_CutPrefix.r3 [0,1,11,12,13,14]) .ret)))
@[reducible] def internal_stringslite_CutPrefix : MFun:={ params:=2,nfree:=0,res:=[.tmp 4,.tmp 5],body:=internal_stringslite_CutPrefix.body }
@[reducible] def internal_stringslite_HasPrefix.r0 : List MOp:=[⟨some 4,.mov (.c (.bool false)),none⟩]
@[reducible] def internal_stringslite_HasPrefix.r1 : List MOp:=[⟨some 5,.mov (.s 0),none⟩,⟨some 6,.len true (.s 5),none⟩,⟨some 7,.mov (.s 1),none⟩,⟨some 8,.len true (.s 7),none⟩,⟨some 9,.bin .geq (.s 6) (.s 8),none⟩,⟨some 10,.mov (.s 9),none⟩,⟨some 11,.mov (.s 0),some (10,true)⟩,⟨some 12,.mov (.s 1),some (10,true)⟩,⟨some 13,.len true (.s 12),some (10,true)⟩,⟨some 14,.strsl (.s 11) none (some (.s 13)),some (10,true)⟩,⟨some 15,.mov (.s 1),some (10,true)⟩,⟨some 16,.bin .eql (.s 14) (.s 15),some (10,true)⟩,⟨some 17,.pick (.s 10) (.s 16) (.c (.bool false)),none⟩,⟨some 4,.mov (.s 17),none⟩]
@[reducible] def internal_stringslite_HasPrefix.body : MC:=(.seq (.reg false internal_stringslite_HasPrefix.r0 [4]) (.seq (.reg false internal_stringslite_HasPrefix.r1 [0,1,5,6,7,8,9,10,11,12,13,14,15,16,17]) .ret))
@[reducible] def internal_stringslite_HasPrefix : MFun:={ params:=2,nfree:=0,res:=[.tmp 4],body:=internal_stringslite_HasPrefix.body }
@[reducible] def w_TextDoes.r0 : List MOp:=[⟨some 3,.box false tImage (.s 0),none⟩,⟨some 6,.mov (.c (.bool false)),none⟩]
@[reducible] def w_TextDoes.r1 : List MOp:=[⟨some 12,.call false [] 346 [],none⟩,⟨some 13,.un .not (.s 12),none⟩]
@[reducible] def w_TextDoes.r2 : List MOp:=[⟨some 6,.mov (.c (.bool false)),none⟩]
@[reducible] def w_TextDoes.r3 : List MOp:=[⟨some 14,.load false none tImage (.s 3),none⟩,⟨some 15,.call false [] 10 [(.s 14)],none⟩,⟨some 16,.mov (.s 15),none⟩,⟨some 17,.mov (.s 1),some (16,false)⟩,⟨some 18,.len true (.s 17),some (16,false)⟩,⟨some 19,.mov (.s 2),some (16,false)⟩,⟨some 20,.len true (.s 19),some (16,false)⟩,⟨some 21,.bin .add (.s 18) (.s 20),some (16,false)⟩,⟨some 22,.bin .gtr (.s 21) (.c (.int .i64 2000)),some (16,false)⟩,⟨some 23,.pick (.s 16) (.c (.bool true)) (.s 22),none⟩]
@[reducible] def w_TextDoes.r4 : List MOp:=[⟨some 6,.mov (.c (.bool true)),none⟩]
@[reducible] def w_TextDoes.r5 : List MOp:=[⟨some 24,.load false none tImage (.s 3),none⟩,⟨some 7,.alloc false tImage,none⟩,⟨none,.store tImage [] (.s 7) (.s 24),none⟩]
@[reducible] def w_TextDoes.r6 : List MOp:=[⟨some 26,.mov (.s 2),none⟩,⟨some 27,.call false [] 345 [(.s 26)],none⟩,⟨some 25,.mov (.s 27),none⟩,⟨some 28,.ext (.s 25) 0,none⟩,⟨some 29,.ext (.s 25) 1,none⟩,⟨some 8,.mov (.s 28),none⟩,⟨some 9,.mov (.s 29),none⟩]
@[reducible] def w_TextDoes.r7 : List MOp:=[⟨some 31,.mov (.s 2),none⟩,⟨some 32,.call false [] 344 [(.s 31)],none⟩,⟨some 30,.mov (.s 32),none⟩,⟨some 33,.ext (.s 30) 0,none⟩,⟨some 34,.ext (.s 30) 1,none⟩,⟨some 10,.mov (.s 33),none⟩,⟨some 11,.mov (.s 34),none⟩]
@[reducible] def w_TextDoes.r8 : List MOp:=[⟨some 35,.call false [] 340 [(.s 3)],none⟩,⟨some 36,.call false [] 341 [(.s 3)],none⟩,⟨some 37,.bin .eql (.s 35) (.s 36),none⟩,⟨some 38,.mov (.s 37),none⟩,⟨some 39,.load false none tImage (.s 3),some (38,true)⟩,⟨some 40,.load false none tImage (.s 7),some (38,true)⟩,⟨some 41,.eq false tImage (.s 39) (.s 40),some (38,true)⟩,⟨some 42,.pick (.s 38) (.s 41) (.c (.bool false)),none⟩,⟨some 43,.mov (.s 42),none⟩,⟨some 44,.mov (.s 1),some (43,true)⟩,⟨some 45,.call false [] 342 [(.s 44)],some (43,true)⟩,⟨some 46,.mov (.s 1),some (43,true)⟩,⟨some 47,.call false [] 343 [(.s 46)],some (43,true)⟩,⟨some 48,.bin .eql (.s 45) (.s 47),some (43,true)⟩,⟨some 49,.pick (.s 43) (.s 48) (.c (.bool false)),none⟩,⟨some 50,.mov (.s 49),none⟩,⟨some 51,.mov (.s 8),some (50,true)⟩,⟨some 52,.mov (.s 10),some (50,true)⟩,⟨some 53,.bin .eql (.s 51) (.s 52),some (50,true)⟩,⟨some 54,.pick (.s 50) (.s 53) (.c (.bool false)),none⟩,⟨some 55,.mov (.s 54),none⟩,⟨some 56,.mov (.s 9),some (55,true)⟩,⟨some 57,.mov (.s 11),some (55,true)⟩,⟨some 58,.eq false tB (.s 56) (.s 57),some (55,true)⟩,⟨some 59,.pick (.s 55) (.s 58) (.c (.bool false)),none⟩,⟨some 6,.mov (.s 59),none⟩]
@[reducible] def w_TextDoes.body : MC:=(.seq (.reg false w_TextDoes.r0 [0,6]) (.seq (.seq (.reg false w_TextDoes.r1 [12]) (.cond (.s 13) (.seq (.reg false w_TextDoes.r2 []) .ret) .skip)) (.seq (.seq (.reg false w_TextDoes.r3 [14,15,16,17,18,19,20,21,22]) (.cond (.s 23) (.seq (.reg false w_TextDoes.r4 []) .ret) .skip)) (.seq (.reg false w_TextDoes.r5 [24]) (.seq (.reg false w_TextDoes.r6 [25,26,27,28,29]) (.seq (.reg false w_TextDoes.r7 [2,30,31,32,33,34]) (.seq (.reg false w_TextDoes.r8 [1,3,7,8,9,10,11,35,36,37,38,39,40,41,42,43,44,45,46,47,48,49,50,51,52,53,54,55,56,57,58,59]) .ret)))))))
@[reducible] def w_TextDoes : MFun:={ params:=3,nfree:=0,res:=[.tmp 6],body:=w_TextDoes.body }
@[reducible] def w_TextBack.r0 : List MOp:=[⟨some 4,.mov (.c (.bool false)),none⟩]
@[reducible] def w_TextBack.r1 : List MOp:=[⟨some 11,.call false [] 346 [],none⟩,⟨some 12,.un .not (.s 11),none⟩]
@[reducible] def w_TextBack.r2 : List MOp:=[⟨some 4,.mov (.c (.bool false)),none⟩]
@[reducible] def w_TextBack.r3 : List MOp:=[⟨some 13,.mov (.s 0),none⟩,⟨some 14,.len true (.s 13),none⟩,⟨some 15,.mov (.s 1),none⟩,⟨some 16,.len true (.s 15),none⟩,⟨some 17,.bin .add (.s 14) (.s 16),none⟩,⟨some 18,.bin .gtr (.s 17) (.c (.int .i64 2000)),none⟩]
@[reducible] def w_TextBack.r4 : List MOp:=[⟨some 4,.mov (.c (.bool true)),none⟩]
@[reducible] def w_TextBack.r5 : List MOp:=[⟨some 19,.mov (.s 0),none⟩,⟨some 20,.call false [] 342 [(.s 19)],none⟩,⟨some 5,.mov (.s 20),none⟩]
@[reducible] def w_TextBack.r6 : List MOp:=[⟨some 22,.mov (.s 5),none⟩,⟨some 23,.call false [] 345 [(.s 22)],none⟩,⟨some 21,.mov (.s 23),none⟩,⟨some 24,.ext (.s 21) 0,none⟩,⟨some 25,.ext (.s 21) 1,none⟩,⟨some 6,.mov (.s 24),none⟩,⟨some 7,.mov (.s 25),none⟩]
@[reducible] def w_TextBack.r7 : List MOp:=[⟨some 26,.mov (.s 7),none⟩,⟨some 27,.un .not (.s 26),none⟩,⟨some 28,.mov (.s 27),none⟩,⟨some 29,.mov (.s 6),some (28,false)⟩,⟨some 30,.mov (.s 0),some (28,false)⟩,⟨some 31,.bin .neq (.s 29) (.s 30),some (28,false)⟩,⟨some 32,.pick (.s 28) (.c (.bool true)) (.s 31),none⟩,⟨some 33,.mov (.s 32),none⟩,⟨some 34,.mov (.s 1),some (33,false)⟩,⟨some 35,.call false [] 342 [(.s 34)],some (33,false)⟩,⟨some 36,.mov (.s 5),some (33,false)⟩,⟨some 37,.bin .eql (.s 35) (.s 36),some (33,false)⟩,⟨some 38,.mov (.s 0),some (33,false)⟩,⟨some 39,.mov (.s 1),some (33,false)⟩,⟨some 40,.bin .eql (.s 38) (.s 39),some (33,false)⟩,⟨some 41,.eq true tB (.s 37) (.s 40),some (33,false)⟩,⟨some 42,.pick (.s 33) (.c (.bool true)) (.s 41),none⟩]
@[reducible] def w_TextBack.r8 : List MOp:=[⟨some 4,.mov (.c (.bool false)),none⟩]
@[reducible] def w_TextBack.r9 : List MOp:=[⟨some 8,.mov (.c (.int .i64 0)),none⟩]
@[reducible] def w_TextBack.r10 : List MOp:=[⟨some 43,.mov (.s 8),none⟩,⟨some 44,.mov (.s 5),none⟩,⟨some 45,.len true (.s 44),none⟩,⟨some 46,.bin .lss (.s 43) (.s 45),none⟩]
@[reducible] def w_TextBack.r11 : List MOp:=[⟨some 47,.mov (.s 8),none⟩,⟨some 48,.bin .add (.s 47) (.c (.int .i64 1)),none⟩,⟨some 8,.mov (.s 48),none⟩]
@[reducible] def w_TextBack.r12 : List MOp:=[⟨some 49,.mov (.s 5),none⟩,⟨some 50,.mov (.s 8),none⟩,⟨some 51,.stridx (.s 49) (.s 50),none⟩,⟨some 52,.bin .lss (.s 51) (.c (.int .u8 33)),none⟩,⟨some 53,.mov (.s 52),none⟩,⟨some 54,.mov (.s 5),some (53,false)⟩,⟨some 55,.mov (.s 8),some (53,false)⟩,⟨some 56,.stridx (.s 54) (.s 55),some (53,false)⟩,⟨some 57,.bin .gtr (.s 56) (.c (.int .u8 126)),some (53,false)⟩,⟨some 58,.pick (.s 53) (.c (.bool true)) (.s 57),none⟩]
@[reducible] def w_TextBack.r13 : List MOp:=[⟨some 4,.mov (.c (.bool false)),none⟩]
@[reducible] def w_TextBack.r14 : List MOp:=[⟨some 60,.mov (.s 1),none⟩,⟨some 61,.call false [] 345 [(.s 60)],none⟩,⟨some 59,.mov (.s 61),none⟩,⟨some 62,.ext (.s 59) 0,none⟩,⟨some 63,.ext (.s 59) 1,none⟩,⟨some 9,.mov (.s 62),none⟩,⟨some 10,.mov (.s 63),none⟩]
@[reducible] def w_TextBack.r15 : List MOp:=[⟨some 64,.mov (.s 10),none⟩,⟨some 65,.un .not (.s 64),none⟩,⟨some 66,.mov (.s 65),none⟩,⟨some 67,.mov (.s 9),some (66,true)⟩,⟨some 68,.bin .eql (.s 67) (.c (.str ⟨#[]⟩)),some (66,true)⟩,⟨some 69,.pick (.s 66) (.s 68) (.c (.bool false)),none⟩,⟨some 70,.mov (.s 69),none⟩,⟨some 71,.mov (.s 10),some (70,false)⟩,⟨some 72,.mov (.s 71),some (70,false)⟩,⟨some 73,.mov (.s 9),some (72,true)⟩,⟨some 74,.call false [] 342 [(.s 73)],some (72,true)⟩,⟨some 75,.mov (.s 1),some (72,true)⟩,⟨some 76,.bin .eql (.s 74) (.s 75),some (72,true)⟩,⟨some 77,.pick (.s 72) (.s 76) (.c (.bool false)),some (70,false)⟩,⟨some 78,.pick (.s 70) (.c (.bool true)) (.s 77),none⟩,⟨some 4,.mov (.s 78),none⟩]
@[reducible] def w_TextBack.body : MC:=(.seq (.reg false w_TextBack.r0 [4]) (.seq (.seq (.reg false w_TextBack.r1 [11]) (.cond (.s 12) (.seq (.reg false w_TextBack.r2 []) .ret) .skip)) (.seq (.seq (.reg false w_TextBack.r3 [13,14,15,16,17]) (.cond (.s 18) (.seq (.reg false w_TextBack.r4 []) .ret) .skip)) (.seq (.reg false w_TextBack.r5 [19,20]) (.seq (.reg false w_TextBack.r6 [21,22,23,24,25]) (.seq (.seq (.reg false w_TextBack.r7 [0,6,7,26,27,28,29,30,31,32,33,34,35,36,37,38,39,40,41]) (.cond (.s 42) (.seq (.reg false w_TextBack.r8 []) .ret) .skip)) (.seq (.seq (.reg false w_TextBack.r9 []) (.block 0 (.loop [1,5,8] [] (.seq (.seq (.reg false w_TextBack.r10 [43,44,45]) (.cond (.s 46) .skip (.exit 0))) (.seq (.block 1 (.seq (.reg false w_TextBack.r12 [49,50,51,52,53,54,55,56,57]) (.cond (.s 58) (.seq (.reg false w_TextBack.r13 []) .ret) .skip))) (.reg false w_TextBack.r11 [47,48])))))) (.seq (.reg false w_TextBack.r14 [59,60,61,62,63]) (.seq (.reg false w_TextBack.r15 [1,9,10,64,65,66,67,68,69,70,71,72,73,74,75,76,77,78]) .ret)))))))))
@[reducible] def w_TextBack : MFun:={ params:=2,nfree:=0,res:=[.tmp 4],body:=w_TextBack.body }
end Fn
noncomputable def tblT0 : List (Option MFun):=[none,none,none,none,none,none,none,none,none,none,none,none,none,none,none,none,none,none,none,none,none,none,none,none,none,none,none,none,none,none,none,none,none,none,none,none,none,none,none,none,none,none,none,none,none,none,none,none,none,none,none,none,none,none,none,none,none,none,none,none,none,none,none,none,none,none,none,none,none,none,none,none,none,none,none,none,none,none,none,none,none,none,none,none,none,none,none,none,none,none,none,none,none,none,none,none,none,none,none,none,none,none,none,none,none,none,none,none,none,none,none,none,none,none,none,none,none,none,none,none,none,none,none,none,none,none,none,none,none,none,none,none,none,none,none,none,none,none,none,none,some Fn.text_Print,some Fn.r_TextOf,some Fn.text_Show,some Fn.r_Shown,some Fn.r_Meant,some Fn.text_Mean,some Fn.w_textBegun,some Fn.r_num,some Fn.strconv_ParseUint,some Fn.strings_CutPrefix,some Fn.strconv_Itoa,some Fn.internal_stringslite_CutPrefix,some Fn.internal_stringslite_HasPrefix,some Fn.w_TextDoes,some Fn.w_TextBack]
def mergeT : List (Option MFun) → List (Option MFun) → List (Option MFun)
 | [],c=>c
 | a,[]=>a
 | some x :: a,_ :: c=>some x :: mergeT a c
 | none :: a,b :: c=>b :: mergeT a c
theorem mergeT_ext : ∀ (a c : List (Option MFun)) (i : Nat) (fn : MFun),a.getD i none = some fn → (mergeT a c).getD i none = some fn
 | [],c,i,fn,h=>by simp at h
 | x :: a,[],i,fn,h=>by cases x <;> exact h
 | some x :: a,y :: c,0,fn,h=>h
 | none :: a,y :: c,0,fn,h=>by simp at h
 | some x :: a,y :: c,i + 1,fn,h=>mergeT_ext a c i fn h
 | none :: a,y :: c,i + 1,fn,h=>mergeT_ext a c i fn h
def tblEL : List (Option MFun):=mergeT (mergeT (mergeT (mergeT tblBL (List.replicate 200 none ++ tblDL0)) (List.replicate 200 none ++ tblEL0)) (List.replicate 200 none ++ tblF0)) (List.replicate 200 none ++ tblG0)
def tblE (f : Nat) : Option MFun:=tblEL.getD f none
theorem tbl_E (i : Nat) (fn : MFun) (h : tblB i = some fn) : tblE i = some fn:=mergeT_ext _ _ _ _ (mergeT_ext _ _ _ _ (mergeT_ext _ _ _ _ (mergeT_ext _ _ _ _ h)))
theorem upE {cx : Cx} {fn : MFun} {e : St} {R : AV → HP → Prop} (h : Ok tblB cx fn e R) : Ok tblE cx fn e R:=by
 obtain ⟨n,s',v,hr,hv,hR⟩:=h
 exact ⟨n,s',v,run_ext tbl_E hr,hv,hR⟩
def HP.ob (h : HP) (n : Nat) (t : Ty) (v : AV) : HP:=h.set (.obj n) ⟨t,v⟩
def HP.nw (h : HP) (t : Ty) (v : AV) : HP:={ h.ob h.next t v with next:=h.next + 1 }
section
variable {h : HP} {n m l : Nat} {t u : Ty} {v w : AV} {o : Own}
@[go_sem] theorem look_ob : (h.ob n t v).look (.obj n) = some ⟨t,v⟩:=by simp [HP.ob,HP.set,HP.look]
theorem obj_ob_ne (e : ¬m = n) : (h.ob n t v).obj m = h.obj m:=by simp [HP.ob,HP.set,e]
@[go_sem] theorem look_ob_arg : (h.ob n t v).look (.arg m) = h.look (.arg m):=rfl
@[go_sem] theorem ob_ob : (h.ob n t v).ob n u w = h.ob n u w:=by
 simp only [HP.ob,HP.set]; congr 1; funext k; by_cases e : k = n <;> simp [e]
@[go_sem] theorem push_ob : (h.push l o).ob n t v = (h.ob n t v).push l o:=rfl
@[go_sem] theorem push_nw : (h.push l o).nw t v = (h.nw t v).push l o:=rfl
@[go_sem] theorem next_ob : (h.ob n t v).next = h.next:=rfl
@[go_sem] theorem next_nw : (h.nw t v).next = h.next + 1:=rfl
@[go_sem] theorem next_push : (h.push l o).next = h.next:=rfl
@[go_sem] theorem look_nw : (h.nw t v).look (.obj h.next) = some ⟨t,v⟩:=by simp [HP.nw,HP.ob,HP.set,HP.look]
@[go_sem] theorem push_looko : (h.push l o).look (.obj n) = h.look (.obj n):=rfl
@[go_sem] theorem push_look_arg : (h.push l o).look (.arg n) = h.look (.arg n):=rfl
@[go_sem] theorem nw_ob : (h.nw t v).ob h.next u w = h.nw u w:=by
 simp only [HP.nw,HP.ob,HP.set]; congr 1; funext k; by_cases e : k = h.next <;> simp [e]
end
section
variable {T : Nat → Option MFun} {cx : Cx} {k : List Item} {kill : List Nat} {r : List MOp} {sl : Slots} {own : Own} {h : HP} {Q : St → Prop}
@[go_sem] theorem fg_ob (n l t : Nat) (p : List Nat) (u : Ty) : fg (.ptr (.obj n) p u) (.stk l t) = .ptr (.obj n) p u:=fg_ptr (below_obj n l) p u
@[go_sem] theorem leads_ob (n l t : Nat) (p : List Nat) (u : Ty) : (AV.ptr (.obj n) p u).leads (.stk l t) = false:=leads_ptr (below_obj n l) p u
@[go_sem] theorem fg_obs (n l t : Nat) (a b : Nat) : fg (.sl (.obj n) a b) (.stk l t) = .sl (.obj n) a b:=fg_sl (below_obj n l) a b
@[go_sem] theorem fg_args (n l t : Nat) (a b : Nat) : fg (.sl (.arg n) a b) (.stk l t) = .sl (.arg n) a b:=fg_sl (below_arg n l) a b
@[go_sem] theorem fg_slz (i : Id) : fg .slz i = .slz:=rfl
@[go_sem] theorem leads_slz (i : Id) : AV.slz.leads i = false:=rfl
@[go_sem] theorem leads_nilsl (i : Id) : AV.nilsl.leads i = false:=rfl
@[go_sem] theorem leads_obs (n l t : Nat) (a b : Nat) : (AV.sl (.obj n) a b).leads (.stk l t) = false:=by simp [AV.leads,AV.isAgg,AV.names]
@[go_sem] theorem leads_args (n l t : Nat) (a b : Nat) : (AV.sl (.arg n) a b).leads (.stk l t) = false:=by simp [AV.leads,AV.isAgg,AV.names]
@[go_sem] theorem rd_look (n : Nat) (p : List Nat) : St.rd cx ⟨sl,own,h⟩ (.obj n) p = (h.look (.obj n)).bind fun b=>b.val.at p:=rfl
@[go_sem] theorem rd_look_arg (n : Nat) (p : List Nat) : St.rd cx ⟨sl,own,h⟩ (.arg n) p = (h.look (.arg n)).bind fun b=>b.val.at p:=rfl
@[go_sem] theorem look_obj (n : Nat) : St.look cx ⟨sl,own,h⟩ (.obj n) = h.look (.obj n):=rfl
@[go_sem] theorem look_arg (n : Nat) : St.look cx ⟨sl,own,h⟩ (.arg n) = h.look (.arg n):=rfl
@[go_sem] theorem apart_ob (n m : Nat) (p : List Nat) (u : Ty) : AV.apart (.obj n) (.ptr (.obj m) p u) = !decide (m = n):=by
 simp only [AV.apart]; congr 1; rw [Bool.eq_iff_iff]; simp
@[go_sem] theorem apart_obstk (n l t : Nat) (p : List Nat) (u : Ty) : AV.apart (.obj n) (.ptr (.stk l t) p u) = true:=by simp [AV.apart]
@[go_sem] theorem apart_stkob (n l t : Nat) (p : List Nat) (u : Ty) : AV.apart (.stk l t) (.ptr (.obj n) p u) = true:=apart_ptr (below_obj n l) p u
theorem W_callR {prot : Bool} {f : Nat} {args : List Opd} {d : Option Nat} {fn : MFun} {R : AV → HP → Prop} (hf : T f = some fn) (hp : fn.params = args.length ∧ fn.nfree = 0)
  (hc : Ok T (St.callCx ⟨sl,own,h⟩ cx prot) fn (St.enter (args.map (St.opd ⟨sl,own,h⟩)) (h.push cx.lvl own)) fun v' h'=>∃ h1 : HP,h' = h1.push cx.lvl own ∧ h1.stk = h.stk ∧ R v' h1)
  (hq : ∀ v h1,R v h1 → W T cx (.ops r kill :: k) (St.setd ⟨sl,own,h1⟩ d v) Q) :
  W T cx (.ops (⟨d,.call prot [] f args,none⟩ :: r) kill :: k) ⟨sl,own,h⟩ Q:=by
 refine W_callr hf hp hc ?_
 rintro v h' ⟨h1,rfl,hs,hR⟩
 have : St.pop ⟨sl,own,h⟩ cx.lvl [] (h1.push cx.lvl own) = ⟨sl,own,h1⟩:=by
  simp only [St.pop,HP.pop,HP.push,Own.unveil,if_true]
  congr 1
  cases h1
  simp only at hs
  subst hs
  simp only [HP.mk.injEq,and_true]
  funext l
  by_cases hl : l = cx.lvl <;> simp [hl]
 rw [this]; exact hq v h1 hR
theorem W_forE {α : Type} {keep ko : List Nat} {b : MC} {s : St} (N : Nat) (S : Nat → α → St) (P : Nat → α → Prop) (a0 : α) (h0 : s.keep keep ko = S 0 a0) (p0 : P 0 a0)
  (step : ∀ j a,j ≤ N → P j a → (∀ s' a',j < N → s'.keep keep ko = S (j + 1) a' → P (j + 1) a' → W T cx (.inLoop keep ko b :: k) s' Q) → W T cx (.code b :: .inLoop keep ko b :: k) (S j a) Q) :
  W T cx (.code (.loop keep ko b) :: k) s Q :=
 W_loop N (fun j s=>∃ a,s = S j a ∧ P j a) ⟨a0,h0,p0⟩ fun j s hj hs ih=>by
  obtain ⟨a,rfl,hp⟩:=hs
  exact step j a hj hp fun s' a' hlt he hp'=>ih s' hlt ⟨a',he,hp'⟩
@[go_sem] theorem pickV_sel (c : Bool) (x y : AV) : pickV (.bool c) x y = some (if c = true then x else y):=by cases c <;> rfl
end
structure SStep where
 kind : Int
 dir : Int
 toDir : Int
 p : Int
 name : Str
 to : Str
 text : Str
def SStep.enc (x : SStep) : AV:=.cons (.int .i64 x.kind) (.cons (.int .i64 x.dir) (.cons (.int .i64 x.toDir) (.cons (.int .i64 x.p) (.cons (.str x.name) (.cons (.str x.to) (.cons (.str x.text) .unit))))))
@[go_sem] theorem at_step0 (x : SStep) : x.enc.at [0] = some (.int .i64 x.kind):=rfl
@[go_sem] theorem at_step1 (x : SStep) : x.enc.at [1] = some (.int .i64 x.dir):=rfl
@[go_sem] theorem at_step2 (x : SStep) : x.enc.at [2] = some (.int .i64 x.toDir):=rfl
@[go_sem] theorem at_step3 (x : SStep) : x.enc.at [3] = some (.int .i64 x.p):=rfl
@[go_sem] theorem at_step4 (x : SStep) : x.enc.at [4] = some (.str x.name):=rfl
@[go_sem] theorem at_step5 (x : SStep) : x.enc.at [5] = some (.str x.to):=rfl
@[go_sem] theorem at_step6 (x : SStep) : x.enc.at [6] = some (.str x.text):=rfl
@[go_sem] theorem field_step0 : tStep.field 0 = some tI:=rfl
@[go_sem] theorem field_step1 : tStep.field 1 = some tI:=rfl
@[go_sem] theorem field_step2 : tStep.field 2 = some tI:=rfl
@[go_sem] theorem field_step3 : tStep.field 3 = some tI:=rfl
@[go_sem] theorem field_step4 : tStep.field 4 = some tS:=rfl
@[go_sem] theorem field_step5 : tStep.field 5 = some tS:=rfl
@[go_sem] theorem field_step6 : tStep.field 6 = some tS:=rfl
@[go_sem] theorem fits_step (x : SStep) : (tStep.fits x.enc = true) = True:=eq_true rfl
@[go_sem] theorem fg_step (x : SStep) (i : Id) : fg x.enc i = x.enc:=rfl
@[go_sem] theorem leads_step (x : SStep) (i : Id) : x.enc.leads i = false:=rfl
@[go_sem] theorem isAgg_step (x : SStep) : x.enc.isAgg = true:=rfl
@[go_sem] theorem safe_step (x : SStep) : x.enc.safe = true:=rfl
def room (a b : Img) (d : Int) (s : Str) : Int:=if 0 ≤ slotOf b d s then -1 else freeSlot a b d
structure Fl where
 now : Img
 disk : Img
 stamp : Int
def encF (c : Nat) (st : Int) : AV:=.cons (.ptr (.obj c) [] tCache) (.cons (.int .i64 st) .unit)
@[go_sem] theorem at_F0 (c : Nat) (st : Int) : (encF c st).at [0] = some (.ptr (.obj c) [] tCache):=rfl
@[go_sem] theorem at_F1 (c : Nat) (st : Int) : (encF c st).at [1] = some (.int .i64 st):=rfl
@[go_sem] theorem put_F1 (c : Nat) (st n : Int) : (encF c st).put [1] (.int .i64 n) = some (encF c n):=rfl
@[go_sem] theorem field_F0 : tFiles.field 0 = some tP:=rfl
@[go_sem] theorem field_F1 : tFiles.field 1 = some tI:=rfl
@[go_sem] theorem fits_F (c : Nat) (st : Int) : (tFiles.fits (encF c st) = true) = True:=eq_true rfl
@[go_sem] theorem fitO_ptr (n : Nat) (p : List Nat) (t : Ty) : fitO tP (some (.ptr (.obj n) p t)) = some (.ptr (.obj n) p t):=rfl
@[go_sem] theorem fill_F (c : Nat) : fill tFiles tFiles.zero [(0,.ptr (.obj c) [] tCache)] = some (encF c 0):=rfl
@[go_sem] theorem fits_boxF (c : Nat) (st : Int) (i : Id) : fg (encF c st) i = encF c st:=rfl
@[go_sem] theorem fits_tP (n : Nat) (p : List Nat) (t : Ty) : (tP.fits (.ptr (.obj n) p t) = true) = True:=eq_true rfl
@[go_sem] theorem put_C0 (a b : Img) (p : List Nat) (x : AV) : (encC a b).put (0 :: p) x = (a.enc.put p x).map fun y=>.cons y (.cons b.enc .unit):=rfl
@[go_sem] theorem put_C1 (a b : Img) (p : List Nat) (x : AV) : (encC a b).put (1 :: p) x = (b.enc.put p x).map fun y=>.cons a.enc (.cons y .unit):=by
 show ((b.enc.put p x).map fun y=>AV.cons y .unit).map (fun y=>AV.cons a.enc y) = _
 cases b.enc.put p x <;> rfl
@[go_sem] theorem Cmk (a b : Img) : AV.cons a.enc (.cons b.enc .unit) = encC a b:=rfl
@[go_sem] theorem results_nil {cx : Cx} {s : St} : results cx s [] = some (.tup .unit):=rfl
section
variable {cx : Cx} {h : HP} {f c : Nat} {a b : Img} {st : Int}
def encR (t : Str) (b : Bool) (c : Int) : AV:=.tup (.cons (.str t) (.cons (.bool b) (.cons (.int .i64 c) .unit)))
@[go_sem] theorem fill_step1 (k d p : Int) (s : Str) : fill tStep tStep.zero [(0,.int .i64 k),(1,.int .i64 d),(4,.str s),(3,.int .i64 p)] = some (SStep.enc ⟨k,d,0,p,s,⟨#[]⟩,⟨#[]⟩⟩):=rfl
@[go_sem] theorem encR_mk (t : Str) (b : Bool) (c : Int) : some (AV.tup (.cons (.str t) (.cons (.bool b) (.cons (.int .i64 c) .unit)))) = some (encR t b c):=rfl
end
structure Bd where
 now : Img
 disk : Img
 stamp : Int
 crashes : Int
 files : Int
 counts : Int
 datas : Int
def tailB (s c f n d : Int) : AV:=.cons (.int .i64 s) (.cons (.int .i64 c) (.cons (.int .i64 f) (.cons (.int .i64 n) (.cons (.int .i64 d) .unit))))
def Bd.enc (B : Bd) : AV:=.cons B.now.enc (.cons B.disk.enc (tailB B.stamp B.crashes B.files B.counts B.datas))
@[go_sem] theorem at_B0 (B : Bd) (p : List Nat) : B.enc.at (0 :: p) = B.now.enc.at p:=rfl
@[go_sem] theorem at_B1 (B : Bd) (p : List Nat) : B.enc.at (1 :: p) = B.disk.enc.at p:=rfl
@[go_sem] theorem at_B2 (B : Bd) : B.enc.at [2] = some (.int .i64 B.stamp):=rfl
@[go_sem] theorem at_B3 (B : Bd) : B.enc.at [3] = some (.int .i64 B.crashes):=rfl
@[go_sem] theorem at_B4 (B : Bd) : B.enc.at [4] = some (.int .i64 B.files):=rfl
@[go_sem] theorem at_B5 (B : Bd) : B.enc.at [5] = some (.int .i64 B.counts):=rfl
@[go_sem] theorem at_B6 (B : Bd) : B.enc.at [6] = some (.int .i64 B.datas):=rfl
@[go_sem] theorem put_B0 (B : Bd) (p : List Nat) (x : AV) : B.enc.put (0 :: p) x = (B.now.enc.put p x).map fun y=>.cons y (.cons B.disk.enc (tailB B.stamp B.crashes B.files B.counts B.datas)):=rfl
@[go_sem] theorem put_B1 (B : Bd) (p : List Nat) (x : AV) : B.enc.put (1 :: p) x = (B.disk.enc.put p x).map fun y=>.cons B.now.enc (.cons y (tailB B.stamp B.crashes B.files B.counts B.datas)):=by
 show ((B.disk.enc.put p x).map fun y=>AV.cons y (tailB B.stamp B.crashes B.files B.counts B.datas)).map (fun y=>AV.cons B.now.enc y) = _
 cases B.disk.enc.put p x <;> rfl
@[go_sem] theorem put_B2 (B : Bd) (x : Int) : B.enc.put [2] (.int .i64 x) = some (Bd.enc { B with stamp:=x }):=rfl
@[go_sem] theorem put_B3 (B : Bd) (x : Int) : B.enc.put [3] (.int .i64 x) = some (Bd.enc { B with crashes:=x }):=rfl
@[go_sem] theorem put_B4 (B : Bd) (x : Int) : B.enc.put [4] (.int .i64 x) = some (Bd.enc { B with files:=x }):=rfl
@[go_sem] theorem put_B5 (B : Bd) (x : Int) : B.enc.put [5] (.int .i64 x) = some (Bd.enc { B with counts:=x }):=rfl
@[go_sem] theorem put_B6 (B : Bd) (x : Int) : B.enc.put [6] (.int .i64 x) = some (Bd.enc { B with datas:=x }):=rfl
@[go_sem] theorem Bmk (a b : Img) (s c f n d : Int) : AV.cons a.enc (.cons b.enc (tailB s c f n d)) = Bd.enc ⟨a,b,s,c,f,n,d⟩:=rfl
@[go_sem] theorem field_B0 : tBed.field 0 = some tImage:=rfl
@[go_sem] theorem field_B1 : tBed.field 1 = some tImage:=rfl
@[go_sem] theorem field_B2 : tBed.field 2 = some tI:=rfl
@[go_sem] theorem field_B3 : tBed.field 3 = some tI:=rfl
@[go_sem] theorem field_B4 : tBed.field 4 = some tI:=rfl
@[go_sem] theorem field_B5 : tBed.field 5 = some tI:=rfl
@[go_sem] theorem field_B6 : tBed.field 6 = some tI:=rfl
theorem fits_B' (B : Bd) : tBed.fits B.enc = true:=by
 show (Ty.cons tImage (.cons tImage _)).fits (AV.cons _ (.cons _ _)) = true
 simp only [fits_cons,fits_img',true_and]
 rfl
@[go_sem] theorem fits_B (B : Bd) : (tBed.fits B.enc = true) = True:=eq_true (fits_B' B)
@[go_sem] theorem fg_B (B : Bd) (i : Id) : fg B.enc i = B.enc:=rfl
@[go_sem] theorem leads_B (B : Bd) (i : Id) : B.enc.leads i = false:=rfl
theorem zero_bed : tBed.zero = Bd.enc ⟨.zero,.zero,0,0,0,0,0⟩:=by
 show AV.cons tImage.zero (.cons tImage.zero _) = _
 rw [zero_img]; rfl
@[go_sem] theorem fill_B (a b : Img) : fill tBed tBed.zero [(0,a.enc),(1,b.enc)] = some (Bd.enc ⟨a,b,0,0,0,0,0⟩):=by
 rw [zero_bed]
 simp only [fill]
 show (if tImage.fits a.enc = true then _ else _) = _
 rw [if_pos (fits_img' a),put_B0,put_nil,Option.map_some,Bmk]
 show (if tImage.fits b.enc = true then _ else _) = _
 rw [if_pos (fits_img' b),put_B1,put_nil,Option.map_some,Bmk]
def Bd.fl (B : Bd) : Fl:=⟨B.now,B.disk,B.stamp⟩
section
variable {T : Nat → Option MFun} {cx : Cx} {k : List Item} {kill : List Nat} {r : List MOp} {sl : Slots} {own : Own} {h : HP} {Q : St → Prop}
def WBX (T : Nat → Option MFun) (cx : Cx) (t : Ty) (v : AV) (d : Nat) (r : List MOp) (kill : List Nat) (k : List Item) (sl : Slots) (own : Own) (h : HP) (Q : St → Prop) : Prop :=
 t.fits v = true ∧ W T cx (.ops r kill :: k) ⟨sl.set d (.ptr (.obj h.next) [] t),own,h.nw t v⟩ Q
@[go_sem] theorem WBX_bed {B : Bd} {d : Nat} : WBX T cx tBed B.enc d r kill k sl own h Q = W T cx (.ops r kill :: k) ⟨sl.set d (.ptr (.obj h.next) [] tBed),own,h.nw tBed B.enc⟩ Q:=by
 simp only [WBX,fits_B,true_and]
@[go_sem] theorem WBX_files {c : Nat} {n : Int} {d : Nat} : WBX T cx tFiles (encF c n) d r kill k sl own h Q = W T cx (.ops r kill :: k) ⟨sl.set d (.ptr (.obj h.next) [] tFiles),own,h.nw tFiles (encF c n)⟩ Q:=by
 simp only [WBX,fits_F,true_and]
theorem W_boxX {d : Nat} {t : Ty} {x : Opd} : W T cx (.ops (⟨some d,.box true t x,none⟩ :: r) kill :: k) ⟨sl,own,h⟩ Q = WBX T cx t (St.opd ⟨sl,own,h⟩ x) d r kill k sl own h Q:=by
 rw [W_op rfl,evOp]
 simp only [evK,WBX]
 by_cases h1 : t.fits (St.opd ⟨sl,own,h⟩ x) = true
 ·simp only [h1,true_and,if_true]; rfl
 ·simp only [h1,false_and,Bool.false_eq_true,if_false]; rfl
@[go_sem] theorem W_boxBed {d : Nat} {x : Opd} : W T cx (.ops (⟨some d,.box true tBed x,none⟩ :: r) kill :: k) ⟨sl,own,h⟩ Q = WBX T cx tBed (St.opd ⟨sl,own,h⟩ x) d r kill k sl own h Q:=W_boxX
@[go_sem] theorem W_boxFiles {d : Nat} {x : Opd} : W T cx (.ops (⟨some d,.box true tFiles x,none⟩ :: r) kill :: k) ⟨sl,own,h⟩ Q = WBX T cx tFiles (St.opd ⟨sl,own,h⟩ x) d r kill k sl own h Q:=W_boxX
@[go_sem] theorem mk1_nw (a b : Img) : h.mk1 a b = h.nw tCache (encC a b):=rfl
end
structure Fr (h h' : HP) (S : List Nat) : Prop where
 stk : h'.stk = h.stk
 arg : h'.arg = h.arg
 next : h.next ≤ h'.next
 same : ∀ n,n < h.next → n ∉ S → h'.obj n = h.obj n
theorem Fr.refl (h : HP) (S : List Nat) : Fr h h S:=⟨rfl,rfl,Nat.le_refl _,fun _ _ _=>rfl⟩
theorem Fr.trans {h h1 h2 : HP} {S : List Nat} (a : Fr h h1 S) (b : Fr h1 h2 S) : Fr h h2 S :=
 ⟨b.stk.trans a.stk,b.arg.trans a.arg,Nat.le_trans a.next b.next,fun n hn hs=>(b.same n (by have:=a.next; omega) hs).trans (a.same n hn hs)⟩
theorem Fr.ob {h : HP} {n : Nat} {t : Ty} {v : AV} {S : List Nat} (hn : n ∈ S) : Fr h (h.ob n t v) S :=
 ⟨rfl,rfl,Nat.le_refl _,fun k _ hs=>obj_ob_ne fun e=>hs (e ▸ hn)⟩
theorem Fr.nw {h : HP} {t : Ty} {v : AV} {S : List Nat} : Fr h (h.nw t v) S :=
 ⟨rfl,rfl,Nat.le_succ _,fun k hk _=>by simp [HP.nw,HP.ob,HP.set]; omega⟩
theorem Fr.mono {h h' : HP} {S S' : List Nat} (a : Fr h h' S) (hs : ∀ n ∈ S,n < h.next → n ∈ S') : Fr h h' S' :=
 ⟨a.stk,a.arg,a.next,fun n hn hn'=>a.same n hn fun e=>hn' (hs n e hn)⟩
theorem Fr.look {h h' : HP} {S : List Nat} (a : Fr h h' S) {n : Nat} {b : Option Blk} (hn : n < h.next) (hs : n ∉ S) (e : h.look (.obj n) = b) : h'.look (.obj n) = b:=by
 rw [← e]; exact a.same n hn hs
section
variable {T : Nat → Option MFun} {cx : Cx} {k : List Item} {kill : List Nat} {r : List MOp} {sl : Slots} {own : Own} {h : HP} {Q : St → Prop}
theorem W_callF {S : List Nat} {R : AV → HP → Prop} {prot : Bool} {f : Nat} {args : List Opd} {d : Option Nat} {fn : MFun} (hf : T f = some fn) (hp : fn.params = args.length ∧ fn.nfree = 0)
  (hc : Ok T (St.callCx ⟨sl,own,h⟩ cx prot) fn (St.enter (args.map (St.opd ⟨sl,own,h⟩)) (h.push cx.lvl own)) fun v' h'=>Fr (h.push cx.lvl own) h' S ∧ R v' h')
  (hR : ∀ v h1,R v (HP.push h1 cx.lvl own) → R v h1)
  (hq : ∀ v h1,Fr h h1 S → R v h1 → W T cx (.ops r kill :: k) (St.setd ⟨sl,own,h1⟩ d v) Q) :
  W T cx (.ops (⟨d,.call prot [] f args,none⟩ :: r) kill :: k) ⟨sl,own,h⟩ Q:=by
 refine W_callR (R:=fun v h1=>Fr h h1 S ∧ R v h1) hf hp (hc.mono fun v h' e=>?_) fun v h1 e=>hq v h1 e.1 e.2
 obtain ⟨e1,e2⟩:=e
 have hh : h' = HP.push ⟨h.stk,h'.obj,h'.next,h'.arg⟩ cx.lvl own:=by
  have:=e1.stk
  cases h'
  simp only at this
  subst this
  rfl
 refine ⟨⟨h.stk,h'.obj,h'.next,h'.arg⟩,hh,rfl,⟨rfl,e1.arg,e1.next,e1.same⟩,hR _ _ (hh ▸ e2)⟩
end
@[go_sem] theorem maxV_int (k : IntKind) (a b : Int) : maxV (.int k a) (.int k b) = some (.int k (if a < b then b else a)):=by simp [maxV]
@[go_sem] theorem fits_tInodes (v : Vector Ino 8) : (tInodes.fits (encV Ino.enc v) = true) = True:=fits_inodes v
structure Lf where
 fl : Fl
 a : Int
 b : Int
 c : Int
 n : Int
def Lf.new : Lf:=⟨⟨.blank,.blank,0⟩,0,0,0,0⟩
def encLi (f : Nat) (a b c n : Int) : AV:=.cons (.ptr (.obj f) [] tFiles) (.cons (encLost a b c) (.cons (.int .i64 n) .unit))
@[go_sem] theorem at_Li0 (f : Nat) (a b c n : Int) : (encLi f a b c n).at [0] = some (.ptr (.obj f) [] tFiles):=rfl
@[go_sem] theorem at_Li1 (f : Nat) (a b c n : Int) : (encLi f a b c n).at [1] = some (encLost a b c):=rfl
@[go_sem] theorem at_Li2 (f : Nat) (a b c n : Int) : (encLi f a b c n).at [2] = some (.int .i64 n):=rfl
@[go_sem] theorem put_Li0 (f g : Nat) (a b c n : Int) : (encLi f a b c n).put [0] (.ptr (.obj g) [] tFiles) = some (encLi g a b c n):=rfl
@[go_sem] theorem put_Li1 (f : Nat) (a b c n a' b' c' : Int) : (encLi f a b c n).put [1] (encLost a' b' c') = some (encLi f a' b' c' n):=rfl
@[go_sem] theorem put_Li2 (f : Nat) (a b c n n' : Int) : (encLi f a b c n).put [2] (.int .i64 n') = some (encLi f a b c n'):=rfl
@[go_sem] theorem field_Li0 : tLife.field 0 = some tP:=rfl
@[go_sem] theorem field_Li1 : tLife.field 1 = some tLost:=rfl
@[go_sem] theorem field_Li2 : tLife.field 2 = some tI:=rfl
@[go_sem] theorem fill_Li (f : Nat) : fill tLife tLife.zero [(0,.ptr (.obj f) [] tFiles)] = some (encLi f 0 0 0 0):=rfl
@[go_sem] theorem fits_Li (f : Nat) (a b c n : Int) : (tLife.fits (encLi f a b c n) = true) = True:=eq_true rfl
section
variable {T : Nat → Option MFun} {cx : Cx} {k : List Item} {kill : List Nat} {r : List MOp} {sl : Slots} {own : Own} {h : HP} {Q : St → Prop}
@[go_sem] theorem WBX_life {f : Nat} {a b c n : Int} {d : Nat} : WBX T cx tLife (encLi f a b c n) d r kill k sl own h Q = W T cx (.ops r kill :: k) ⟨sl.set d (.ptr (.obj h.next) [] tLife),own,h.nw tLife (encLi f a b c n)⟩ Q:=by
 simp only [WBX,fits_Li,true_and]
@[go_sem] theorem W_boxLife {d : Nat} {x : Opd} : W T cx (.ops (⟨some d,.box true tLife x,none⟩ :: r) kill :: k) ⟨sl,own,h⟩ Q = WBX T cx tLife (St.opd ⟨sl,own,h⟩ x) d r kill k sl own h Q:=W_boxX
end
structure LifeAt (h : HP) (p f c : Nat) (L : Lf) : Prop where
 li : h.look (.obj p) = some ⟨tLife,encLi f L.a L.b L.c L.n⟩
 fi : h.look (.obj f) = some ⟨tFiles,encF c L.fl.stamp⟩
 ca : h.look (.obj c) = some ⟨tCache,encC L.fl.now L.fl.disk⟩
 pf : ¬p = f
 fc : ¬f = c
 pc : ¬p = c
 pn : p < h.next
 fn : f < h.next
 cn : c < h.next
def LifeTo (h h' : HP) (p f c : Nat) (L : Lf) : Prop:=∃ f' c',LifeAt h' p f' c' L ∧ ((f' = f ∧ c' = c) ∨ (h.next ≤ f' ∧ h.next ≤ c'))
theorem LifeAt.pop {h : HP} {p f c l : Nat} {o : Own} {L : Lf} (a : LifeAt (h.push l o) p f c L) : LifeAt h p f c L:=⟨a.li,a.fi,a.ca,a.pf,a.fc,a.pc,a.pn,a.fn,a.cn⟩
theorem LifeAt.push {h : HP} {p f c l : Nat} {o : Own} {L : Lf} (a : LifeAt h p f c L) : LifeAt (h.push l o) p f c L:=⟨a.li,a.fi,a.ca,a.pf,a.fc,a.pc,a.pn,a.fn,a.cn⟩
theorem LifeTo.pop {h h1 : HP} {p f c l l' : Nat} {o o' : Own} {L : Lf} (a : LifeTo (h.push l' o') (h1.push l o) p f c L) : LifeTo h h1 p f c L:=by
 obtain ⟨f',c',a,b⟩:=a
 exact ⟨f',c',a.pop,b⟩
theorem LifeTo.push {h h1 : HP} {p f c l : Nat} {o : Own} {L : Lf} (a : LifeTo h h1 p f c L) : LifeTo (h.push l o) h1 p f c L:=a
def sLt (a b : Str) : Bool:=Op.bytesLess a.toList b.toList
theorem bLt_asymm : ∀ l m : List UInt8,Op.bytesLess l m = true → Op.bytesLess m l = false
 | _,[],h=>by simp [Op.bytesLess] at h
 | [],b :: m,_=>rfl
 | a :: l,b :: m,h=>by
  simp only [Op.bytesLess,Bool.or_eq_true,Bool.and_eq_true,decide_eq_true_eq,beq_iff_eq] at h
  simp only [Op.bytesLess,Bool.or_eq_false_iff,decide_eq_false_iff_not]
  rcases h with h | ⟨rfl,h⟩
  ·refine ⟨fun e=>absurd (UInt8.lt_trans h e) (UInt8.lt_irrefl _),?_⟩
   have : ¬b = a:=fun e=>by subst e; exact absurd h (UInt8.lt_irrefl _)
   simp [this]
  ·exact ⟨UInt8.lt_irrefl _,by simp [bLt_asymm l m h]⟩
theorem bLt_total : ∀ l m : List UInt8,Op.bytesLess l m = false → Op.bytesLess m l = false → l = m
 | [],[],_,_=>rfl
 | [],_ :: _,h,_=>by simp [Op.bytesLess] at h
 | _ :: _,[],_,h=>by simp [Op.bytesLess] at h
 | a :: l,b :: m,h,k=>by
  simp only [Op.bytesLess,Bool.or_eq_false_iff,decide_eq_false_iff_not] at h k
  have e : a = b:=by
   have h1:=h.1; have k1:=k.1
   rw [UInt8.lt_iff_toNat_lt] at h1 k1
   exact UInt8.toNat_inj.1 (by omega)
  subst e
  simp at h k
  rw [bLt_total l m h k]
theorem bLt_trans : ∀ l m n : List UInt8,Op.bytesLess l m = true → Op.bytesLess m n = true → Op.bytesLess l n = true
 | _,[],_,h,_=>by simp [Op.bytesLess] at h
 | _,_ :: _,[],_,h=>by simp [Op.bytesLess] at h
 | [],_ :: _,_ :: _,_,_=>rfl
 | a :: l,b :: m,c :: n,h,k=>by
  simp only [Op.bytesLess,Bool.or_eq_true,Bool.and_eq_true,decide_eq_true_eq,beq_iff_eq] at h k ⊢
  rcases h with h | ⟨rfl,h⟩
  ·rcases k with k | ⟨rfl,k⟩
   ·exact .inl (UInt8.lt_trans h k)
   ·exact .inl h
  ·rcases k with k | ⟨rfl,k⟩
   ·exact .inl k
   ·exact .inr ⟨rfl,bLt_trans l m n h k⟩
theorem str_toList {a b : Str} : a.toList = b.toList ↔ a = b:=by
 constructor
 ·intro h
  rw [bytes_list,bytes_list] at h
  cases a; cases b
  simp only [ByteArray.mk.injEq]
  exact Array.toList_inj.1 h
 ·rintro rfl; rfl
theorem sLt_asymm {a b : Str} (h : sLt a b = true) : sLt b a = false:=bLt_asymm _ _ h
theorem sLt_trans {a b c : Str} (h : sLt a b = true) (k : sLt b c = true) : sLt a c = true:=bLt_trans _ _ _ h k
theorem sLt_total {a b : Str} (h : sLt a b = false) (k : sLt b a = false) : a = b:=str_toList.1 (bLt_total _ _ h k)
def sLe (a b : Str) : Bool:=!sLt b a
theorem sLe_trans {a b c : Str} (h : sLe a b = true) (k : sLe b c = true) : sLe a c = true:=by
 simp only [sLe,Bool.not_eq_true'] at h k ⊢
 cases e : sLt c a with
 | false=>rfl
 | true =>
  cases e2 : sLt b c with
  | true=>rw [sLt_trans e2 e] at h; exact h
  | false =>
   have : b = c:=sLt_total e2 k
   subst this
   rw [e] at h; exact h
def encS (l : List Str) : AV:=.ofList (l.map AV.str)
theorem encS_toList (l : List Str) : (encS l).toList = some (l.map AV.str):=by
 simp only [encS,AV.ofList,AV.toList]
 congr 1
 exact List.ext_getElem (by simp) (by simp)
theorem encS_fits (l : List Str) {n : Nat} (h : n = l.length) : (Ty.arr n tS).fits (encS l) = true:=by
 subst h
 simp [encS,AV.ofList,Ty.fits,tS,LK.fits,AV.safe]
def txt (l : List Str) (i : Nat) : Str:=l.getD i ⟨#[]⟩
@[go_sem] theorem encS_at (l : List Str) {i : Nat} (h : i < l.length) : (encS l).at [i] = some (.str (txt l i)):=by
 simp [encS,AV.ofList,AV.at,h,txt]
theorem txt_set (l : List Str) (i : Nat) (s : Str) (j : Nat) : txt (l.set i s) j = if j = i ∧ i < l.length then s else txt l j:=by
 simp only [txt,List.getD_eq_getElem?_getD,List.getElem?_set]
 by_cases e : i = j
 ·subst e
  by_cases h : i < l.length
  ·simp [h]
  ·simp [h]
 ·have : ¬j = i:=fun h=>e h.symm
  simp [e,this]
theorem txt_get {l : List Str} {i : Nat} (h : i < l.length) : txt l i = l[i]:=by simp [txt,h]
theorem arr_ofList {n : Nat} {f : Fin n → AV} {l : List AV} (hl : l.length = n) (h : ∀ i (hi : i < n),f ⟨i,hi⟩ = l[i]'(by omega)) : AV.arr n f = AV.ofList l:=by
 subst hl
 simp only [AV.ofList]
 congr 1
 funext i
 exact h i.val i.isLt
@[go_sem] theorem encS_put (l : List Str) {i : Nat} (h : i < l.length) (s : Str) : (encS l).put [i] (.str s) = some (encS (l.set i s)):=by
 simp only [encS,AV.ofList,AV.put,List.length_map,h,dite_true,Option.map_some]
 congr 1
 refine arr_ofList (by simp) fun j hj=>?_
 simp only [List.get_eq_getElem,List.getElem_map,List.getElem_set]
 by_cases e : j = i
 ·subst e; simp
 ·have : ¬i = j:=fun h=>e h.symm
  simp [e,this]
@[go_sem] theorem evStr_lss (a b : Str) : evStr .lss a b = some (.bool (sLt a b)):=rfl
@[go_sem] theorem evStr_gtr (a b : Str) : evStr .gtr a b = some (.bool (!(sLt a b || decide (a = b)))):=by
 show some (AV.bool (!(Op.bytesLess a.toList b.toList || a.toList == b.toList))) = _
 rw [bytes_eq]; rfl
section
variable {T : Nat → Option MFun} {cx : Cx} {k : List Item} {kill : List Nat} {r : List MOp} {sl : Slots} {own : Own} {h : HP} {Q : St → Prop}
@[go_sem] theorem sidxV_int {t : Ty} {j : Id} {off len : Nat} {z : Int} {kk : IntKind} {L : Id → Option Blk} (h0 : 0 ≤ z) (hm : z < len) : sidxV t (.sl j off len) (.int kk z) L = sidxB t j (off + z.toNat) (L j):=by
 simp only [sidxV,toIx]; rw [if_pos ⟨by omega,by omega⟩]
@[go_sem] theorem toNat_succ (p : Nat) : ((p : Int) + 1).toNat = p + 1:=by omega
@[go_sem] theorem fg_func (f : Nat) (i : Id) : fg (.func f .unit) i = .func f .unit:=by simp [fg,AV.leads,AV.isAgg,AV.names]
@[go_sem] theorem leads_func (f : Nat) (i : Id) : (AV.func f .unit).leads i = false:=by simp [AV.leads,AV.isAgg,AV.names]
end
structure PermIn (l m : List Str) (a b : Nat) : Prop where
 perm : m.Perm l
 out : ∀ i,(i < a ∨ b ≤ i) → txt m i = txt l i
theorem PermIn.refl (l : List Str) (a b : Nat) : PermIn l l a b:=⟨List.Perm.refl _,fun _ _=>rfl⟩
theorem PermIn.len {l m : List Str} {a b : Nat} (h : PermIn l m a b) : m.length = l.length:=h.perm.length_eq
theorem PermIn.trans {l m n : List Str} {a b : Nat} (h : PermIn l m a b) (k : PermIn m n a b) : PermIn l n a b:=⟨k.perm.trans h.perm,fun i hi=>(k.out i hi).trans (h.out i hi)⟩
def swapL (l : List Str) (i j : Nat) : List Str:=(l.set i (txt l j)).set j (txt l i)
theorem txt_swap {l : List Str} {i j : Nat} (hi : i < l.length) (hj : j < l.length) (x : Nat) : txt (swapL l i j) x = if x = j then txt l i else if x = i then txt l j else txt l x:=by
 simp only [swapL,txt_set,List.length_set,hi,hj,and_true]
theorem swap_perm {l : List Str} {i j : Nat} (hi : i < l.length) (hj : j < l.length) : (swapL l i j).Perm l:=by
 rw [swapL,txt_get hi,txt_get hj]
 exact List.set_set_perm hi hj
theorem PermIn.swap {l : List Str} {a b i j : Nat} (hi : i < l.length) (hj : j < l.length) (h1 : a ≤ i ∧ i < b) (h2 : a ≤ j ∧ j < b) : PermIn l (swapL l i j) a b :=
 ⟨swap_perm hi hj,fun x hx=>by
  rw [txt_swap hi hj,if_neg (by omega),if_neg (by omega)]⟩
def SortedIn (l : List Str) (a b : Nat) : Prop:=∀ x y,a ≤ x → x < y → y < b → sLe (txt l x) (txt l y) = true
def SinkIn (l : List Str) (a i j : Nat) : Prop:=(∀ x y,a ≤ x → x < y → y ≤ i → ¬x = j → ¬y = j → sLe (txt l x) (txt l y) = true) ∧ ∀ y,j < y → y ≤ i → sLe (txt l j) (txt l y) = true
theorem sLe_of_lt {a b : Str} (h : sLt a b = true) : sLe a b = true:=by simp [sLe,sLt_asymm h]
theorem SinkIn.start {l : List Str} {a i : Nat} (h : SortedIn l a i) : SinkIn l a i i:=⟨fun x y hx hy hi hxi hyi=>h x y hx hy (by omega),fun y h1 h2=>by omega⟩
theorem SinkIn.step {l : List Str} {a i j : Nat} (h : SinkIn l a i (j + 1)) (hj : a ≤ j) (hi : j + 1 ≤ i) (hl : i < l.length) (hlt : sLt (txt l (j + 1)) (txt l j) = true) : SinkIn (swapL l (j + 1) j) a i j:=by
 have ts:=txt_swap (l:=l) (i:=j + 1) (j:=j) (by omega) (by omega)
 refine ⟨fun x y hx hxy hyi hxj hyj=>?_,fun y hy hyi=>?_⟩
 ·rw [ts x,ts y,if_neg hxj,if_neg hyj]
  by_cases e1 : x = j + 1
  ·rw [if_pos e1,if_neg (by omega)]
   exact h.1 j y hj (by omega) hyi (by omega) (by omega)
  ·rw [if_neg e1]
   by_cases e2 : y = j + 1
   ·rw [if_pos e2]
    exact h.1 x j hx (by omega) (by omega) (by omega) (by omega)
   ·rw [if_neg e2]
    exact h.1 x y hx hxy hyi (by omega) (by omega)
 ·rw [ts j,ts y,if_pos rfl,if_neg (by omega)]
  by_cases e2 : y = j + 1
  ·rw [if_pos e2]; exact sLe_of_lt hlt
  ·rw [if_neg e2]; exact h.2 y (by omega) hyi
theorem SinkIn.low {l : List Str} {a i : Nat} (h : SinkIn l a i a) : SortedIn l a (i + 1):=fun x y hx hxy hy=>by
 by_cases e : x = a
 ·subst e; exact h.2 y hxy (by omega)
 ·exact h.1 x y hx hxy (by omega) e (by omega)
theorem SinkIn.rest {l : List Str} {a i j : Nat} (h : SinkIn l a i (j + 1)) (hj : a ≤ j) (hge : sLt (txt l (j + 1)) (txt l j) = false) : SortedIn l a (i + 1):=fun x y hx hxy hy=>by
 have hle : sLe (txt l j) (txt l (j + 1)) = true:=by simp [sLe,hge]
 by_cases e : x = j + 1
 ·subst e; exact h.2 y hxy (by omega)
 ·by_cases e2 : y = j + 1
  ·subst e2
   by_cases e3 : x = j
   ·subst e3; exact hle
   ·by_cases e4 : j ≤ i
    ·exact sLe_trans (h.1 x j hx (by omega) e4 e (by omega)) hle
    ·omega
  ·exact h.1 x y hx hxy (by omega) e e2
def HP.dl (h : HP) (q : Nat) : HP:={ h with obj:=fun k=>if k = q then none else h.obj k }
theorem Fr.dl {h h1 : HP} {q : Nat} {S : List Nat} (a : Fr h h1 S) (hq : h.next ≤ q) : Fr h (h1.dl q) S :=
 ⟨a.stk,a.arg,a.next,fun n hn hs=>by
  show (if n = q then none else h1.obj n) = _
  rw [if_neg (by omega)]; exact a.same n hn hs⟩
def SlF (h h1 : HP) (v : AV) (l : List Str) : Prop:=(v = .nilsl ∧ l = []) ∨ ∃ q,v = .sl (.obj q) 0 l.length ∧ h.next ≤ q ∧ q < h1.next ∧ h1.look (.obj q) = some ⟨.arr l.length tS,encS l⟩
section
variable {T : Nat → Option MFun} {cx : Cx} {k : List Item} {kill : List Nat} {r : List MOp} {sl : Slots} {own : Own} {h : HP} {Q : St → Prop}
def WBs (T : Nat → Option MFun) (cx : Cx) (v : AV) (d : Nat) (r : List MOp) (kill : List Nat) (k : List Item) (sl : Slots) (own : Own) (h : HP) (Q : St → Prop) : Prop :=
 onO (fill (.arr 1 tS) (Ty.arr 1 tS).zero [(0,v)]) fun w=>W T cx (.ops r kill :: k) ⟨(Slots.forget sl (.stk cx.lvl d)).set d (.sl (.stk cx.lvl d) 0 1),own.set d ⟨.arr 1 tS,w⟩,h⟩ Q
theorem fill1s (s : Str) : fill (.arr 1 tS) (Ty.arr 1 tS).zero [(0,.str s)] = some (encS [s]):=by
 simp only [fill,Ty.part,Nat.lt_one_iff,if_true,fits_tS,Ty.zero,AV.put,Nat.zero_lt_one,dite_true,put_nil,Option.map_some,encS,AV.ofList]
 congr 2
 funext j
 match j with
 | ⟨0,_⟩=>rfl
@[go_sem] theorem WBs_str {s : Str} {d : Nat} : WBs T cx (.str s) d r kill k sl own h Q = W T cx (.ops r kill :: k) ⟨(Slots.forget sl (.stk cx.lvl d)).set d (.sl (.stk cx.lvl d) 0 1),own.set d ⟨.arr 1 tS,encS [s]⟩,h⟩ Q:=by
 simp only [WBs,fill1s,onO]
@[go_sem] theorem W_bslice1s {d : Nat} {x : Opd} : W T cx (.ops (⟨some d,.bslice false tS 1 [(0,x)],none⟩ :: r) kill :: k) ⟨sl,own,h⟩ Q = WBs T cx (St.opd ⟨sl,own,h⟩ x) d r kill k sl own h Q:=by
 rw [W_op rfl,evOp]
 simp only [evK,WBs,List.map_cons,List.map_nil]
 cases fill (.arr 1 tS) (Ty.arr 1 tS).zero [(0,St.opd ⟨sl,own,h⟩ x)] <;> rfl
def WAs (T : Nat → Option MFun) (cx : Cx) (x : AV) (add : Option (List AV)) (d : Nat) (r : List MOp) (kill : List Nat) (k : List Item) (sl : Slots) (own : Own) (h : HP) (Q : St → Prop) : Prop :=
 onO add fun add=>onO (evAppend (St.look cx ⟨sl,own,h⟩) tS x add) fun e=>onO (applyEff cx (some d) true ⟨sl,own,h⟩ e) fun p=>W T cx (.ops r kill :: k) (p.2.setd (some d) p.1) Q
def elemsS (b : Option Blk) (len : Nat) : Option (List AV):=match b with
 | some ⟨.arr _ t',v⟩=>match v.toList with
   | some l=>if tS = t' ∧ len ≤ l.length then some (l.take len) else none
   | none=>none
 | _=>none
@[go_sem] theorem elems_slS (L : Id → Option Blk) (j : Id) (len : Nat) : elems L tS (.sl j 0 len) = elemsS (L j) len:=by
 simp only [elems,elemsS,Nat.zero_add,List.drop_zero]
 cases L j with
 | none=>rfl
 | some b=>obtain ⟨bt,bv⟩:=b; cases bt <;> rfl
@[go_sem] theorem elemsS_all (l : List Str) (n : Nat) : elemsS (some ⟨.arr n tS,encS l⟩) l.length = some (l.map AV.str):=by
 have : List.take l.length (List.map AV.str l) = List.map AV.str l:=List.take_of_length_le (by simp)
 simp [elemsS,encS_toList,this]
@[go_sem] theorem elemsS_one (s : Str) : elemsS (some ⟨.arr 1 tS,encS [s]⟩) 1 = some [.str s]:=by
 simp [elemsS,encS_toList]
@[go_sem] theorem W_appendS {d : Nat} {x y : Opd} : W T cx (.ops (⟨some d,.append true [] tS x y,none⟩ :: r) kill :: k) ⟨sl,own,h⟩ Q = WAs T cx (St.opd ⟨sl,own,h⟩ x) (elems (St.look cx ⟨sl,own,h⟩) tS (St.opd ⟨sl,own,h⟩ y)) d r kill k sl own h Q:=by
 rw [W_op rfl,evOp]
 simp only [evK,WAs]
 cases elems (St.look cx ⟨sl,own,h⟩) tS (St.opd ⟨sl,own,h⟩ y) with
 | none=>rfl
 | some add =>
  simp only [onO_some]
  cases evAppend (St.look cx ⟨sl,own,h⟩) tS (St.opd ⟨sl,own,h⟩ x) add <;> rfl
@[go_sem] theorem WAs_nil {s : Str} {d : Nat} : WAs T cx .nilsl (some [.str s]) d r kill k sl own h Q =
  W T cx (.ops r kill :: k) ⟨sl.set d (.sl (.obj h.next) 0 1),own,h.nw (.arr 1 tS) (encS [s])⟩ Q:=by
 have hf:=encS_fits [s] (n:=1) rfl
 simp only [WAs,onO_some,evAppend,List.length_cons,List.length_nil,Nat.zero_add]
 rw [if_neg (by omega),if_pos ⟨hf,by omega⟩]
 rfl
end
def encSteps (l : List SStep) : AV:=.ofList (l.map SStep.enc)
def stp (l : List SStep) (k : Nat) : SStep:=l.getD k ⟨0,0,0,0,⟨#[]⟩,⟨#[]⟩,⟨#[]⟩⟩
@[go_sem] theorem encSteps_at (l : List SStep) {k : Nat} (h : k < l.length) (p : List Nat) : (encSteps l).at (k :: p) = (stp l k).enc.at p:=by
 simp [encSteps,AV.ofList,AV.at,h,stp]
structure StepsV (h : HP) (v : AV) (l : List SStep) : Prop where
 len : lenV false v = some (.int .i64 l.length)
 fg : ∀ a b,Go.Mini.fg v (.stk a b) = v
 ld : ∀ a b,v.leads (.stk a b) = false
 ix : ∀ k,k < l.length → ∃ n,v = .sl (.arg n) 0 l.length ∧ h.look (.arg n) = some ⟨.arr l.length tStep,encSteps l⟩
theorem StepsV.to {h h' : HP} {v : AV} {l : List SStep} (a : StepsV h v l) (e : h'.arg = h.arg) : StepsV h' v l :=
 ⟨a.len,a.fg,a.ld,fun k hk=>by
  obtain ⟨n,h1,h2⟩:=a.ix k hk
  exact ⟨n,h1,by simp only [HP.look,e] at h2 ⊢; exact h2⟩⟩
theorem StepsV.push {h : HP} {v : AV} {l : List SStep} {a : Nat} {o : Own} (s : StepsV h v l) : StepsV (h.push a o) v l:=s.to rfl
structure SStep.ok (x : SStep) : Prop where
 name : x.name.size ≤ 9223372036854775807
 to : x.to.size ≤ 9223372036854775807
 text : x.text.size ≤ 9223372036854775807
section
variable {T : Nat → Option MFun} {cx : Cx} {k : List Item} {kill : List Nat} {r : List MOp} {sl : Slots} {own : Own} {h : HP} {Q : St → Prop}
def roV (v : AV) (o : Option AV) : Option AV:=match v with
 | .sl j _ _=>if j.isArg = true then o else none
 | .ptr j _ _=>if j.isArg = true then o else none
 | _=>none
@[go_sem] theorem roV_sl (n a b : Nat) (o : Option AV) : roV (.sl (.arg n) a b) o = o:=rfl
@[go_sem] theorem roV_ptr (n : Nat) (p : List Nat) (t : Ty) (o : Option AV) : roV (.ptr (.arg n) p t) o = o:=rfl
@[go_sem] theorem W_sidxT {d : Option Nat} {t : Ty} {x i : Opd} {s : St} : W T cx (.ops (⟨d,.sidx true t x i,none⟩ :: r) kill :: k) s Q = W1 T cx (roV (s.opd x) (sidxV t (s.opd x) (s.opd i) (s.look cx))) d r kill k s Q :=
 W_val rfl (by
  simp only [evK,sidxV,roV]
  cases s.opd x <;> try (simp; done)
  rename_i j off len
  cases toIx (s.opd i) with
  | none=>simp only []; split <;> rfl
  | some z =>
   simp only [true_implies]
   by_cases hj : j.isArg = true
   ·rw [if_pos hj]
    by_cases hz : 0 ≤ z ∧ z < (len : Int)
    ·rw [if_pos ⟨hz.1,hz.2,hj⟩,if_pos hz]
     cases s.look cx j with
     | none=>rfl
     | some b =>
      obtain ⟨bt,bv⟩:=b
      cases bt <;> try rfl
      simp only [sidxB]
      split <;> rfl
    ·rw [if_neg (fun h=>hz ⟨h.1,h.2.1⟩),if_neg hz]; rfl
   ·rw [if_neg (fun h=>hj h.2.2),if_neg hj]; rfl)
@[go_sem] theorem W_loadT {d : Option Nat} {t : Ty} {x : Opd} {s : St} : W T cx (.ops (⟨d,.load true none t x,none⟩ :: r) kill :: k) s Q = W1 T cx (roV (s.opd x) (ldV t (s.opd x) (s.rd cx))) d r kill k s Q :=
 W_val rfl (by
  simp only [evK,roV]
  cases s.opd x <;> simp only [ldV,rooted,true_implies,true_and,and_true,Option.map_none] <;> try rfl
  ·rename_i i p t'
   by_cases hj : i.isArg = true
   ·rw [if_pos hj]
    by_cases ht : t = t'
    ·simp only [ht,hj,and_self,if_true,St.rd]
     cases (s.look cx i).bind fun b=>b.val.at p with
     | none=>rfl
     | some v=>by_cases hf : t'.fits v = true <;> simp [hf]
    ·rw [if_neg (fun h=>ht h.1),if_neg ht]; rfl
   ·rw [if_neg (fun h=>hj h.2),if_neg hj]; rfl
  ·split <;> rfl)
end
def SlX (h : HP) (l : Nat) (v : AV) (m : List Str) : Prop:=(v = .nilsl ∧ m = []) ∨ ∃ i,v = .sl i 0 m.length ∧ i.below l ∧ h.look i = some ⟨.arr m.length tS,encS m⟩
theorem SlF.x {h h1 : HP} {v : AV} {m : List Str} {l : Nat} (a : SlF h h1 v m) : SlX h1 l v m:=by
 rcases a with a | ⟨q,h1,_,_,h2⟩
 ·exact .inl a
 ·exact .inr ⟨.obj q,h1,below_obj _ _,h2⟩
theorem SlX.len {h : HP} {l : Nat} {v : AV} {m : List Str} (a : SlX h l v m) : lenV false v = some (.int .i64 m.length):=by
 rcases a with ⟨rfl,rfl⟩ | ⟨i,rfl,_⟩ <;> rfl
open Go.RowKit Go.ChangeShapes
section
variable {H : Type} {enc : TypeId × Value → H} {P : Program}
theorem trodAll_stays (hl : laidOutB P = true) {W W' : World} {sp : Nat → Bool} (hB : Below W.heap.size W W') : ∀ {ts : List TypeId} {vs : List Value} {ds : List (DataW H)} {ps : List MemPlace},
  (∀ t ∈ ts,P.readableRec t = true ∧ t < P.types.size) → DataW.TrodAll enc P W 0 (fun _=>true) true ts vs ds ps → (∀ p ∈ ps,p.block < W.heap.size) → (∀ p ∈ ps,sp p.block = true) →
  DataW.TrodAll enc P W' 0 sp true ts vs ds ps
 | [],vs,ds,ps,_,h,_,_=>by
  obtain ⟨rfl,rfl,rfl⟩:=trodAll_nil h
  exact trodAll_mk0
 | t :: ts,vs,ds,ps,ht,h,h1,h2=>by
  obtain ⟨v,vs',d,ds',p,q,rfl,rfl,rfl,h3,h4⟩:=trodAll_cons h
  exact ⟨p,q,WideElems.Trod_stays hl (ht t List.mem_cons_self).1 (ht t List.mem_cons_self).2 h3 (fun x hx=>hB.same (h1 x (List.mem_append_left _ hx))) (fun x hx=>h2 x (List.mem_append_left _ hx)),
   trodAll_stays hl hB (fun t' ht'=>ht t' (List.mem_cons_of_mem _ ht')) h4 (fun x hx=>h1 x (List.mem_append_right _ hx)) (fun x hx=>h2 x (List.mem_append_right _ hx)),rfl⟩
theorem law_post {f : Func} {s : ChangeSpec} {tb : TypeId} {W W' : World} {args : Array Value} {ds gs : List (DataW H)} {before : List MemPlace} (hl : laidOutB P = true) (hts : ∀ t ∈ f.params.toList,P.readableRec t = true ∧ t < P.types.size)
  (hv : s.vars = []) (hr : f.resultTypes = #[tb]) (hb : P.underlying tb = some .bool)
  (hW : DataW.Whole enc P f.params.toList s.vars false W args.toList ds gs before) (hs : s.fn H ds = { results:=[.lit (.bool true)],args:=ds }) (hB : Below W.heap.size W W') :
  s.post enc P f false true false false W args (.bool true) W':=by
 have hlt:=hW.lt
 obtain ⟨p,q,hA,hV,rfl,hfz,hnd⟩:=id hW
 rw [hv] at hV
 obtain ⟨rfl,rfl⟩:=trodVars_none hV
 refine ⟨ds,[],p ++ [],[],p,[],hW,?_,?_,?_,hB.frame _,fun h=>by cases h⟩
 ·rw [hr,List.append_nil,hs]
  exact trodAll_cons_mk (shut_bool hb _) trodAll_mk0
 ·rw [List.append_nil,hs]
  exact trodAll_stays hl hB hts hA (fun x hx=>hlt x (by simpa using hx)) (fun x hx=>by simpa using hlt x (by simpa using hx))
 ·rw [hv,List.append_nil,hs]
  rfl
end
theorem dec_encV {α : Type} {f : α → AV} {t : Ty} {n : Nat} (h : ∀ v,t.fits v = true → ∃ a,v = f a) {v : AV} (hv : (Ty.arr n t).fits v = true) : ∃ w : Vector α n,v = encV f w:=by
 cases v with
 | arr k g =>
  simp only [Ty.fits,Bool.and_eq_true,beq_iff_eq,List.all_eq_true] at hv
  obtain ⟨rfl,hg⟩:=hv
  have hc : ∀ i,∃ a,g i = f a:=fun i=>h _ (hg i (List.mem_finRange _))
  refine ⟨Vector.ofFn fun i=>(hc i).choose,?_⟩
  simp only [encV]
  congr 1
  funext i
  simp only [Fin.getElem_fin,Vector.getElem_ofFn]
  exact (hc i).choose_spec
 | _=>simp [Ty.fits] at hv
theorem dec_int {v : AV} (h : tI.fits v = true) : ∃ n,v = .int .i64 n:=by
 cases v <;> simp [tI,Ty.fits,LK.fits,AV.safe] at h
 subst h; exact ⟨_,rfl⟩
theorem dec_bool {v : AV} (h : tB.fits v = true) : ∃ n,v = .bool n:=by
 cases v <;> simp [tB,Ty.fits,LK.fits,AV.safe] at h
 exact ⟨_,rfl⟩
theorem dec_str {v : AV} (h : tS.fits v = true) : ∃ n,v = .str n:=by
 cases v <;> simp [tS,Ty.fits,LK.fits,AV.safe] at h
 exact ⟨_,rfl⟩
theorem dec_cons {a b : Ty} {v : AV} (h : (Ty.cons a b).fits v = true) : ∃ x y,v = .cons x y ∧ a.fits x = true ∧ b.fits y = true:=by
 cases v <;> simp [Ty.fits] at h
 exact ⟨_,_,rfl,h⟩
theorem dec_unit {v : AV} (h : Ty.unit.fits v = true) : v = .unit:=by
 cases v <;> simp [Ty.fits] at h
 rfl
theorem dec_ent {v : AV} (h : tEntry.fits v = true) : ∃ e : Ent,v = e.enc:=by
 obtain ⟨a,v,rfl,ha,h⟩:=dec_cons h
 obtain ⟨b,v,rfl,hb,h⟩:=dec_cons h
 obtain ⟨c,v,rfl,hc,h⟩:=dec_cons h
 obtain rfl:=dec_unit h
 obtain ⟨a,rfl⟩:=dec_str ha
 obtain ⟨b,rfl⟩:=dec_int hb
 obtain ⟨c,rfl⟩:=dec_int hc
 exact ⟨⟨a,b,c⟩,rfl⟩
theorem dec_dat {v : AV} (h : tData.fits v = true) : ∃ e : Dat,v = e.enc:=by
 obtain ⟨a,v,rfl,ha,h⟩:=dec_cons h
 obtain ⟨b,v,rfl,hb,h⟩:=dec_cons h
 obtain rfl:=dec_unit h
 obtain ⟨a,rfl⟩:=dec_int ha
 obtain ⟨b,rfl⟩:=dec_str hb
 exact ⟨⟨a,b⟩,rfl⟩
theorem dec_ino {v : AV} (h : tInode.fits v = true) : ∃ e : Ino,v = e.enc:=by
 obtain ⟨a,v,rfl,ha,h⟩:=dec_cons h
 obtain ⟨b,v,rfl,hb,h⟩:=dec_cons h
 obtain ⟨c,v,rfl,hc,h⟩:=dec_cons h
 obtain ⟨d,v,rfl,hd,h⟩:=dec_cons h
 obtain rfl:=dec_unit h
 obtain ⟨a,rfl⟩:=dec_bool ha
 obtain ⟨b,rfl⟩:=dec_int hb
 obtain ⟨c,rfl⟩:=dec_int hc
 obtain ⟨d,rfl⟩:=dec_encV (f:=AV.int .i64) (fun _=>dec_int) hd
 exact ⟨⟨a,b,c,d⟩,rfl⟩
theorem dec_img {v : AV} (h : tImage.fits v = true) : ∃ e : Img,v = e.enc:=by
 obtain ⟨a,v,rfl,ha,h⟩:=dec_cons h
 obtain ⟨b,v,rfl,hb,h⟩:=dec_cons h
 obtain ⟨c,v,rfl,hc,h⟩:=dec_cons h
 obtain rfl:=dec_unit h
 obtain ⟨a,rfl⟩:=dec_encV (f:=Ino.enc) (fun _=>dec_ino) ha
 obtain ⟨b,rfl⟩:=dec_encV (f:=encV Ent.enc) (fun _=>dec_encV (f:=Ent.enc) fun _=>dec_ent) hb
 obtain ⟨c,rfl⟩:=dec_encV (f:=Dat.enc) (fun _=>dec_dat) hc
 exact ⟨⟨a,b,c⟩,rfl⟩
open Go.RowKit Go.ChangeShapes
def HP.args (f : Nat → Option Blk) : HP:=⟨fun _=>[],fun _=>none,0,f⟩
def betaA (g : Nat → Option Place) : Beta
 | .arg n=>g n
 | _=>none
section
variable {P : Program} {T : Nat → Option MFun}
theorem law_runA {φ : Nat → Option FuncId} {fuel F f : Nat} {fn : MFun} {args : List AV} {rargs : List Value} {v : AV} {hp : HP} {bf : Nat → Option Blk} {g : Nat → Option Place} {Cond : World → Prop} (hT : ∀ W,Cond W → @TblOk (fixAt W) P T φ drawOk) (hmo : P.follows .mixedOrders = true) (hf : T f = some fn) (hF : φ f = some F) (hfree : fn.nfree = 0)
  (hrun : runFn T fuel f args (HP.args bf) = some (v,hp)) (hlen : args.length = fn.params) (ha : All2 (VR φ (betaA g)) args rargs) (W : World) (hC : Cond W)
  (hB : ∀ n b,bf n = some b → ∃ pl cs T fr,BR φ (betaA g) (fun r=>W.heap.size ≤ r) (.arg n) b W pl cs T fr) :
  Calls P F rargs.toArray W fun e W'=>(∃ x β',e = .returned x ∧ VR φ β' v x) ∧ Below W.heap.size W W':=by
 unfold runFn at hrun
 rw [hf] at hrun
 simp only at hrun
 cases hr : run T fuel ⟨0,⟨0,0⟩⟩ [.code fn.body] (St.enter args (HP.args bf)) with
 | none=>simp [hr] at hrun
 | some s2 =>
  simp only [hr,Option.map_eq_some_iff] at hrun
  obtain ⟨v',hv,he⟩:=hrun
  simp at he
  obtain ⟨rfl,_⟩:=he
  have hst : ∀ i b,(HP.args bf).look i = some b → ∃ n,i = .arg n ∧ bf n = some b:=by
   intro i b hb
   cases i with
   | stk l t=>simp [HP.args,HP.look,Own.get] at hb
   | obj n=>simp [HP.args,HP.look] at hb
   | arg n=>exact ⟨n,rfl,hb⟩
  letI : Fix:=fixAt W
  have:=callSim (hT W hC) (drawSound (hT W hC) hmo) fuel fn F (hT W hC f fn F hf hF) ⟨0,⟨0,0⟩⟩ args (HP.args bf) s2 v' (betaA g) (fun r=>W.heap.size ≤ r) rargs W hr hv (by simp [hlen,hfree]) ha
   ⟨fun i b hb=>by obtain ⟨n,rfl,h⟩:=hst i b hb; exact hB n b h,fun i j bi bj pi pj hi hj _ _ _ _=>by
    obtain ⟨n,rfl,_⟩:=hst i bi hi
    obtain ⟨m,rfl,_⟩:=hst j bj hj
    exact ⟨rfl,rfl⟩⟩ (fun i pl h=>by cases i <;> simp [betaA] at h <;> trivial) (fun _ _=>rfl) (fun r h=>h) (fixAt_I W)
  refine this.mono fun e W' h=>?_
  obtain ⟨x,β',rfl,hvx,_,hA⟩:=h
  exact ⟨⟨x,β',rfl,hvx⟩,hA.same.os,hA.same.tape,hA.same.output,hA.same.size,fun k hk=>hA.same.block k hk (by omega)⟩
theorem law_callsS {φ : Nat → Option FuncId} {F f : Nat} {fn : MFun} {bf : Nat → Option Blk} {g : Nat → Option Place} {Cond : World → Prop} (hT : ∀ W,Cond W → @TblOk (fixAt W) P T φ drawOk) (hmo : P.follows .mixedOrders = true) (hf : T f = some fn) (hF : φ f = some F) (hfree : fn.nfree = 0)
  {args : Array Value} {avs : List AV} (W : World) (hC : Cond W) (ha : All2 (VR φ (betaA g)) avs args.toList) (hlen : avs.length = fn.params) (hB : ∀ n b,bf n = some b → ∃ pl cs T fr,BR φ (betaA g) (fun r=>W.heap.size ≤ r) (.arg n) b W pl cs T fr)
  (h : Ok T ⟨0,⟨0,0⟩⟩ fn (St.enter avs (HP.args bf)) fun v _=>v = .bool true) :
  Calls P F args W fun e W'=>e = .returned (.bool true) ∧ Below W.heap.size W W':=by
 obtain ⟨n,s',v,hr,hv,rfl⟩:=h
 have hr' : runFn T n f avs (HP.args bf) = some (.bool true,s'.hp):=by simp only [runFn,hf,hr,hv]; rfl
 have:=law_runA hT hmo hf hF hfree hr' hlen ha W hC hB
 rw [Array.toArray_toList] at this
 refine this.mono fun e W' h=>⟨?_,h.2⟩
 obtain ⟨⟨x,β',rfl,hv⟩,_⟩:=h
 simp [VR,VR1,AV.isAgg,LR,AV.rel] at hv
 rw [hv]
end
open Go.RowKit Go.ChangeShapes
theorem lets_top' : ∀ n,(⟨0,⟨0,0⟩⟩ : Cx).prot.lets (.obj n) = true:=fun n=>decide_eq_true (Nat.zero_le n)
noncomputable def tblTL : List (Option MFun):=mergeT tblEL (List.replicate 200 none ++ tblT0)
noncomputable def tblT (f : Nat) : Option MFun:=tblTL.getD f none
theorem tbl_T (i : Nat) (fn : MFun) (h : tblE i = some fn) : tblT i = some fn:=mergeT_ext _ _ _ _ h
theorem upT {cx : Cx} {fn : MFun} {e : St} {R : AV → HP → Prop} (h : Ok tblE cx fn e R) : Ok tblT cx fn e R:=by
 obtain ⟨n,s',v,hr,hv,hR⟩:=h
 exact ⟨n,s',v,run_ext tbl_T hr,hv,hR⟩
section
variable {T : Nat → Option MFun} {cx : Cx} {k : List Item} {kill : List Nat} {r : List MOp} {sl : Slots} {own : Own} {h : HP} {Q : St → Prop}
def strslV (x : AV) (lo : Option Int) (hi : Nat → Option Int) : Option AV:=match x with
 | .str b=>evStrsl b lo (hi b.size)
 | _=>none
@[go_sem] theorem strslV_str (b : ByteArray) (lo : Option Int) (hi : Nat → Option Int) : strslV (.str b) lo hi = evStrsl b lo (hi b.size):=rfl
theorem W_strsl {d : Option Nat} {x : Opd} {lo hi : Option Opd} {s : St} : W T cx (.ops (⟨d,.strsl x lo hi,none⟩ :: r) kill :: k) s Q = W1 T cx (strslV (s.opd x) (ixOr s.opd lo 0) (fun n=>ixOr s.opd hi n)) d r kill k s Q :=
 W_val rfl (by simp only [evK,strslV]; cases s.opd x <;> rfl)
@[go_sem] theorem W_strsl2 {d : Option Nat} {x a b : Opd} {s : St} : W T cx (.ops (⟨d,.strsl x (some a) (some b),none⟩ :: r) kill :: k) s Q = W1 T cx (strslV (s.opd x) (toIx (s.opd a)) (fun _=>toIx (s.opd b))) d r kill k s Q:=W_strsl
@[go_sem] theorem W_strsl1 {d : Option Nat} {x a : Opd} {s : St} : W T cx (.ops (⟨d,.strsl x (some a) none,none⟩ :: r) kill :: k) s Q = W1 T cx (strslV (s.opd x) (toIx (s.opd a)) (fun n=>some (n : Int))) d r kill k s Q:=W_strsl
@[go_sem] theorem W_strsl0 {d : Option Nat} {x b : Opd} {s : St} : W T cx (.ops (⟨d,.strsl x none (some b),none⟩ :: r) kill :: k) s Q = W1 T cx (strslV (s.opd x) (some 0) (fun _=>toIx (s.opd b))) d r kill k s Q:=W_strsl
@[go_sem] theorem toIx_int' (kk : IntKind) (n : Int) : toIx (.int kk n) = some n:=rfl
@[go_sem] theorem evStrsl_ok {b : ByteArray} {a c : Int} (h0 : 0 ≤ a) (h1 : a ≤ c) (h2 : c ≤ (b.size : Int)) : evStrsl b (some a) (some c) = some (.str (b.extract a.toNat c.toNat)):=by
 simp only [evStrsl]; rw [if_pos ⟨h0,h1,h2⟩]
def tostrV (o : Option (List AV)) : Option AV:=match o with
 | some l=>(bytesOf l).map fun b=>.str ⟨b.toArray⟩
 | none=>none
@[go_sem] theorem W_tostr {d : Option Nat} {x : Opd} {s : St} : W T cx (.ops (⟨d,.tostr x,none⟩ :: r) kill :: k) s Q = W1 T cx (tostrV (elems (s.look cx) (.leaf (.int .u8)) (s.opd x))) d r kill k s Q :=
 W_val rfl (by
  simp only [evK,tostrV]
  cases elems (s.look cx) (.leaf (.int .u8)) (s.opd x) with
  | none=>rfl
  | some l=>simp only; cases bytesOf l <;> rfl)
def eqifV (neg : Bool) (x y : AV) : Option AV:=match x,y with
 | .iface b,.iface false=>some (.bool (if neg then b else !b))
 | _,_=>none
@[go_sem] theorem eqifV_ne (b : Bool) : eqifV true (.iface b) (.iface false) = some (.bool b):=rfl
@[go_sem] theorem eqifV_eq (b : Bool) : eqifV false (.iface b) (.iface false) = some (.bool !b):=rfl
@[go_sem] theorem W_eqif {d : Option Nat} {neg : Bool} {x y : Opd} {s : St} : W T cx (.ops (⟨d,.eqif neg x y,none⟩ :: r) kill :: k) s Q = W1 T cx (eqifV neg (s.opd x) (s.opd y)) d r kill k s Q :=
 W_val rfl (by
  simp only [evK,eqifV]
  cases s.opd x <;> try rfl
  cases s.opd y <;> try rfl
  rename_i b c
  cases c <;> rfl)
def safeO (o : Option AV) : Option AV:=match o with
 | some v=>if v.safe = true then some v else none
 | none=>none
@[go_sem] theorem safeO_str (b : ByteArray) : safeO (some (.str b)) = some (.str b):=rfl
@[go_sem] theorem safeO_int (kk : IntKind) (n : Int) : safeO (some (.int kk n)) = some (.int kk n):=rfl
@[go_sem] theorem safeO_iface (b : Bool) : safeO (some (.iface b)) = some (.iface b):=rfl
@[go_sem] theorem W_prim {d : Option Nat} {f : List AV → Option AV} {xs : List Opd} {s : St} : W T cx (.ops (⟨d,.prim f xs,none⟩ :: r) kill :: k) s Q = W1 T cx (safeO (f (xs.map s.opd))) d r kill k s Q :=
 W_val rfl (by
  simp only [evK,safeO]
  cases f (xs.map s.opd) with
  | none=>rfl
  | some v=>simp only; split <;> rfl)
end
def bsL (l : List UInt8) : Str:=⟨l.toArray⟩
theorem bsL_append (a b : List UInt8) : bsL a ++ bsL b = bsL (a ++ b):=by
 apply ByteArray.ext
 simp [bsL]
theorem bsL_size (a : List UInt8) : (bsL a).size = a.length:=by simp [bsL,ByteArray.size]
def hexS : Str:=⟨#[48,49,50,51,52,53,54,55,56,57,97,98,99,100,101,102]⟩
section
variable {cx : Cx} {h : HP}
theorem byteAt_eq {s : Str} {j : Nat} (hj : j < s.data.toList.length) : byteAt s j = (s.data.toList[j]).toNat:=by
 simp only [byteAt]
 rw [Array.getD_eq_getD_getElem?]
 simp at hj
 simp [hj]
theorem extract_one {s : Str} {j : Nat} (hj : j < s.data.toList.length) : s.extract j (j + 1) = bsL [s.data.toList[j]]:=by
 apply ByteArray.ext
 apply Array.ext
 ·simp at hj; simp [bsL]; omega
 ·intro i h1 h2
  simp [bsL] at h2
  subst h2
  simp [bsL]
theorem hex_one {n : Nat} (hn : n < 16) : hexS.extract n (n + 1) = bsL [hexD n]:=by
 match n,hn with
 | 0,_ | 1,_ | 2,_ | 3,_ | 4,_ | 5,_ | 6,_ | 7,_ | 8,_ | 9,_ | 10,_ | 11,_ | 12,_ | 13,_ | 14,_ | 15,_=>rfl
 | n + 16,h=>exact absurd h (by omega)
theorem byteAt_lt (s : Str) (j : Nat) : byteAt s j < 256:=(s.data.getD j 0).toNat_lt
theorem showL_take {l : List UInt8} {j : Nat} (hj : j < l.length) : showL (l.take (j + 1)) = showL (l.take j) ++ show1 l[j]:=by
 rw [List.take_add_one,List.getElem?_eq_getElem hj]
 simp only [showL,List.flatMap_append,List.cons_append,Option.toList_some,List.flatMap_cons,List.flatMap_nil,List.append_nil]
theorem showL_size (l : List UInt8) : (showL l).length ≤ 3 * l.length + 1:=by
 induction l with
 | nil=>simp [showL]
 | cons c l ih =>
  simp only [showL,List.length_cons,List.flatMap_cons,List.length_append] at ih ⊢
  have : (show1 c).length ≤ 3:=by unfold show1; split <;> simp
  omega
@[go_sem] theorem evInt_quo16 {x : Int} (h0 : 0 ≤ x) (h1 : x < 256) : evInt .quo .i64 x 16 = some (.int .i64 (x / 16)):=by
 simp only [evInt]
 rw [if_neg (by decide),Int.tdiv_eq_ediv_of_nonneg h0]
 rw [wrap64 (by omega) (by omega)]
@[go_sem] theorem evInt_rem16 {x : Int} (h0 : 0 ≤ x) (h1 : x < 256) : evInt .rem .i64 x 16 = some (.int .i64 (x % 16)):=by
 simp only [evInt]
 rw [if_neg (by decide),Int.tmod_eq_emod_of_nonneg h0]
theorem strsl_one {s : Str} {j : Nat} (hj : j < s.data.toList.length) : evStrsl s (some (j : Int)) (some ((j : Int) + 1)) = some (.str (bsL [s.data.toList[j]])):=by
 have hs : j < s.size:=by simpa using hj
 rw [evStrsl_ok (by omega) (by omega) (by omega),Int.toNat_natCast,show ((j : Int) + 1).toNat = j + 1 by omega,extract_one hj]
@[go_sem] theorem strsl_hex {x : Int} (h0 : 0 ≤ x) (h1 : x < 16) : evStrsl hexS (some x) (some (x + 1)) = some (.str (bsL [hexD x.toNat])):=by
 have hs : hexS.size = 16:=rfl
 rw [evStrsl_ok h0 (by omega) (by omega),show (x + 1).toNat = x.toNat + 1 by omega,hex_one (by omega)]
theorem add_bsL {a b : List UInt8} (h : a.length + b.length ≤ 1000000000) : evStr .add (bsL a) (bsL b) = some (.str (bsL (a ++ b))):=by
 have hm : IntKind.i64.max = 9223372036854775807:=by decide
 simp only [evStr]
 rw [if_neg (by rw [bsL_size,bsL_size,hm]; omega),bsL_append]
@[go_sem] theorem add_bsL1 {a : List UInt8} {c : UInt8} (h : a.length ≤ 1000000) : evStr .add (bsL a) (bsL [c]) = some (.str (bsL (a ++ [c]))):=add_bsL (by simp; omega)
@[go_sem] theorem add_bsL3 {a : List UInt8} {x y z : UInt8} (h : a.length ≤ 1000000) : evStr .add (bsL a) (bsL [x,y,z]) = some (.str (bsL (a ++ [x,y,z]))):=add_bsL (by simp; omega)
@[go_sem] theorem add_bs92 {c : UInt8} : evStr .add ⟨#[92]⟩ (bsL [c]) = some (.str (bsL [92,c])):=add_bsL (a:=[92]) (by simp)
@[go_sem] theorem add_bs92' {b c : UInt8} : evStr .add (bsL [92,b]) (bsL [c]) = some (.str (bsL [92,b,c])):=add_bsL (by simp)
theorem Shown_ok {s : Str} (hs : s.size ≤ 100000) : Ok tblT cx Fn.r_Shown (St.enter [.str s] h) fun v h'=>v = .str (bsL (showL s.data.toList)) ∧ h' = h:=by
 rw [Ok_eq]
 simp (maxSteps:=999999) (disch:=omega) only [go_sem]
 refine W_forP s.size (fun j=>⟨[(0,.str s),(3,.str hexS),(4,.str (bsL (showL (s.data.toList.take j)))),(5,.int .i64 j)],[],h⟩) (fun _=>True) (by simp only [go_sem] <;> rfl) trivial fun j hj _ ih=>?_
 by_cases hlt : j < s.size
 ·have hl : j < s.data.toList.length:=by simpa using hlt
  have hb:=byteAt_lt s j
  have hbe:=byteAt_eq hl
  have hsz : (showL (s.data.toList.take j)).length ≤ 300001:=by
   have:=showL_size (s.data.toList.take j)
   simp only [List.length_take] at this
   omega
  have fin1 : (33 ≤ byteAt s j ∧ byteAt s j ≤ 126 ∧ byteAt s j ≠ 92) → showL (s.data.toList.take (j + 1)) = showL (s.data.toList.take j) ++ [s.data.toList[j]]:=by
   intro hc
   rw [showL_take hl,show1,← hbe,if_pos hc]
  have fin2 : ¬(33 ≤ byteAt s j ∧ byteAt s j ≤ 126 ∧ byteAt s j ≠ 92) → showL (s.data.toList.take (j + 1)) = showL (s.data.toList.take j) ++ [92,hexD ((byteAt s j : Int) / 16).toNat,hexD ((byteAt s j : Int) % 16).toNat]:=by
   intro hc
   rw [showL_take hl,show1,← hbe,if_neg hc,show ((byteAt s j : Int) / 16).toNat = byteAt s j / 16 by omega,show ((byteAt s j : Int) % 16).toNat = byteAt s j % 16 by omega]
  by_cases h1 : 33 ≤ byteAt s j
  ·by_cases h2 : byteAt s j ≤ 126
   ·by_cases h3 : byteAt s j = 92
    ·have f:=fin2 (by omega)
     simp (maxSteps:=999999) (disch:=omega) only [go_sem,hlt,h1,h2,h3]
     refine ih _ hlt trivial ?_
     simp only [go_sem,f,h3]
    ·have f:=fin1 (by omega)
     simp (maxSteps:=999999) (disch:=omega) only [go_sem,hlt,h1,h2,h3,strsl_one hl]
     refine ih _ hlt trivial ?_
     simp only [go_sem,f]
   ·have f:=fin2 (by omega)
    simp (maxSteps:=999999) (disch:=omega) only [go_sem,hlt,h1,h2]
    refine ih _ hlt trivial ?_
    simp only [go_sem,f]
  ·have f:=fin2 (by omega)
   simp (maxSteps:=999999) (disch:=omega) only [go_sem,hlt,h1]
   refine ih _ hlt trivial ?_
   simp only [go_sem,f]
 ·obtain rfl : j = s.size:=by omega
  simp (maxSteps:=999999) (disch:=omega) only [go_sem]
  rw [List.take_of_length_le (by simp)]
end
def encU (l : List Int) : AV:=.ofList (l.map (AV.int .u8))
theorem encU_toList (l : List Int) : (encU l).toList = some (l.map (AV.int .u8)):=by
 simp only [encU,AV.ofList,AV.toList]
 congr 1
 exact List.ext_getElem (by simp) (by simp)
theorem encU_fits (l : List Int) {n : Nat} (h : n = l.length) : (Ty.arr n tU8).fits (encU l) = true:=by
 subst h
 simp [encU,AV.ofList,Ty.fits,tU8,LK.fits,AV.safe]
theorem bytesOf_map (l : List Int) : bytesOf (l.map (AV.int .u8)) = some (l.map fun n=>UInt8.ofNat n.toNat):=by
 induction l with
 | nil=>rfl
 | cons n l ih=>simp [bytesOf,ih]
def ints (l : List UInt8) : List Int:=l.map fun c=>(c.toNat : Int)
theorem ints_back (l : List UInt8) : (ints l).map (fun n=>UInt8.ofNat n.toNat) = l:=by
 induction l with
 | nil=>rfl
 | cons c l ih=>simp only [ints,List.map_cons,Int.toNat_natCast,UInt8.ofNat_toNat] at ih ⊢; rw [ih]
section
variable {T : Nat → Option MFun} {cx : Cx} {k : List Item} {kill : List Nat} {r : List MOp} {sl : Slots} {own : Own} {h : HP} {Q : St → Prop}
def WBU (T : Nat → Option MFun) (cx : Cx) (o : Option AV) (n d : Nat) (r : List MOp) (kill : List Nat) (k : List Item) (sl : Slots) (own : Own) (h : HP) (Q : St → Prop) : Prop :=
 onO o fun w=>W T cx (.ops r kill :: k) ⟨(Slots.forget sl (.stk cx.lvl d)).set d (.sl (.stk cx.lvl d) 0 n),own.set d ⟨.arr n tU8,w⟩,h⟩ Q
@[go_sem] theorem WBU_some {n d : Nat} {v : AV} : WBU T cx (some v) n d r kill k sl own h Q = W T cx (.ops r kill :: k) ⟨(Slots.forget sl (.stk cx.lvl d)).set d (.sl (.stk cx.lvl d) 0 n),own.set d ⟨.arr n tU8,v⟩,h⟩ Q:=rfl
@[go_sem] theorem W_bsliceU {n d : Nat} {ps : List (Nat × Opd)} : W T cx (.ops (⟨some d,.bslice false tU8 n ps,none⟩ :: r) kill :: k) ⟨sl,own,h⟩ Q =
  WBU T cx (fill (.arr n tU8) (Ty.arr n tU8).zero (ps.map fun p=>(p.1,St.opd ⟨sl,own,h⟩ p.2))) n d r kill k sl own h Q:=by
 rw [W_op rfl,evOp]
 simp only [evK,WBU]
 cases fill (.arr n tU8) (Ty.arr n tU8).zero (ps.map fun p=>(p.1,St.opd ⟨sl,own,h⟩ p.2)) <;> rfl
theorem fits_tU8 (n : Int) : tU8.fits (.int .u8 n) = true:=by simp [Ty.fits,tU8,LK.fits,AV.safe]
@[go_sem] theorem fillU1 (n : Int) : fill (.arr 1 tU8) (Ty.arr 1 tU8).zero [(0,.int .u8 n)] = some (encU [n]):=by
 simp only [fill,Ty.part,Nat.lt_one_iff,if_true,fits_tU8,Ty.zero,AV.put,Nat.zero_lt_one,dite_true,put_nil,Option.map_some,encU,AV.ofList]
 congr 2
 funext j
 match j with
 | ⟨0,_⟩=>rfl
@[go_sem] theorem fillU3 (a b c : Int) : fill (.arr 3 tU8) (Ty.arr 3 tU8).zero [(0,.int .u8 a),(1,.int .u8 b),(2,.int .u8 c)] = some (encU [a,b,c]):=by
 simp [fill,Ty.part,fits_tU8,Ty.zero,AV.put,put_nil,encU,AV.ofList]
 funext j
 match j with
 | ⟨0,_⟩=>rfl
 | ⟨1,_⟩=>rfl
 | ⟨2,_⟩=>rfl
def elemsU (b : Option Blk) (len : Nat) : Option (List AV):=match b with
 | some ⟨.arr _ t',v⟩=>match v.toList with
   | some l=>if tU8 = t' ∧ len ≤ l.length then some (l.take len) else none
   | none=>none
 | _=>none
@[go_sem] theorem elems_slU (L : Id → Option Blk) (j : Id) (len : Nat) : elems L tU8 (.sl j 0 len) = elemsU (L j) len:=by
 simp only [elems,elemsU,Nat.zero_add,List.drop_zero]
 cases L j with
 | none=>rfl
 | some b=>obtain ⟨bt,bv⟩:=b; cases bt <;> rfl
@[go_sem] theorem elems_slU8 (L : Id → Option Blk) (j : Id) (len : Nat) : elems L (.leaf (.int .u8)) (.sl j 0 len) = elemsU (L j) len:=elems_slU L j len
@[go_sem] theorem elems_nilU8 (L : Id → Option Blk) : elems L (.leaf (.int .u8)) .nilsl = some []:=rfl
@[go_sem] theorem elems_nilU (L : Id → Option Blk) : elems L tU8 .nilsl = some []:=rfl
theorem elemsU_all {n : Nat} {l : List Int} (h : n = l.length) : elemsU (some ⟨.arr n tU8,encU l⟩) n = some (l.map (AV.int .u8)):=by
 subst h
 simp only [elemsU,encU_toList,List.length_map,Nat.le_refl,and_self,if_true]
 rw [List.take_of_length_le (by simp)]
@[go_sem] theorem elemsU_1 (a : Int) : elemsU (some ⟨.arr 1 tU8,encU [a]⟩) 1 = some ([a].map (AV.int .u8)):=elemsU_all rfl
@[go_sem] theorem elemsU_3 (a b c : Int) : elemsU (some ⟨.arr 3 tU8,encU [a,b,c]⟩) 3 = some ([a,b,c].map (AV.int .u8)):=elemsU_all rfl
def WAU (T : Nat → Option MFun) (cx : Cx) (x : AV) (add : Option (List AV)) (d : Nat) (r : List MOp) (kill : List Nat) (k : List Item) (sl : Slots) (own : Own) (h : HP) (Q : St → Prop) : Prop :=
 onO add fun add=>onO (evAppend (St.look cx ⟨sl,own,h⟩) tU8 x add) fun e=>onO (applyEff cx (some d) false ⟨sl,own,h⟩ e) fun p=>W T cx (.ops r kill :: k) (p.2.setd (some d) p.1) Q
@[go_sem] theorem W_appendU {d : Nat} {x y : Opd} : W T cx (.ops (⟨some d,.append false [] tU8 x y,none⟩ :: r) kill :: k) ⟨sl,own,h⟩ Q = WAU T cx (St.opd ⟨sl,own,h⟩ x) (elems (St.look cx ⟨sl,own,h⟩) tU8 (St.opd ⟨sl,own,h⟩ y)) d r kill k sl own h Q:=by
 rw [W_op rfl,evOp]
 simp only [evK,WAU]
 cases elems (St.look cx ⟨sl,own,h⟩) tU8 (St.opd ⟨sl,own,h⟩ y) with
 | none=>rfl
 | some add =>
  simp only [onO_some]
  cases evAppend (St.look cx ⟨sl,own,h⟩) tU8 (St.opd ⟨sl,own,h⟩ x) add <;> rfl
theorem WAU_grow {d t len : Nat} {l add : List Int} (hb : own.get t = some ⟨.arr len tU8,encU l⟩) (hl : l.length = len) (ha : 0 < add.length) (hm : len + add.length ≤ 1048576) : WAU T cx (.sl (.stk cx.lvl t) 0 len) (some (add.map (AV.int .u8))) d r kill k sl own h Q =
  W T cx (.ops r kill :: k) ⟨(Slots.forget sl (.stk cx.lvl d)).set d (.sl (.stk cx.lvl d) 0 (len + add.length)),(own.rid t).set d ⟨.arr (len + add.length) tU8,encU (l ++ add)⟩,h⟩ Q:=by
 have hf:=encU_fits (l ++ add) (n:=len + add.length) (by simp [hl])
 have e : List.map (AV.int .u8) (l ++ add) = (List.map (AV.int .u8) l).take len ++ add.map (AV.int .u8):=by
  rw [List.map_append,List.take_of_length_le (by simp [hl])]
 simp only [encU,e] at hf ⊢
 simp only [WAU,onO_some,evAppend,look_own,hb,encU_toList,List.length_map,Nat.zero_add,List.drop_zero,if_true]
 rw [if_neg (by omega),if_pos (by omega),if_pos ⟨hf,hm⟩]
 simp only [onO_some,applyEff,St.drop,Id.own,if_true,Option.map_some]
 rfl
theorem WAU_nil {d : Nat} {add : List Int} (ha : 0 < add.length) (hm : add.length ≤ 1048576) : WAU T cx .nilsl (some (add.map (AV.int .u8))) d r kill k sl own h Q =
  W T cx (.ops r kill :: k) ⟨(Slots.forget sl (.stk cx.lvl d)).set d (.sl (.stk cx.lvl d) 0 add.length),own.set d ⟨.arr add.length tU8,encU add⟩,h⟩ Q:=by
 have hf:=encU_fits add (n:=add.length) rfl
 simp only [WAU,onO_some,evAppend,List.length_map]
 rw [if_neg (by omega),if_pos ⟨hf,hm⟩]
 rfl
end
section
variable {cx : Cx} {h : HP}
@[go_sem] theorem shr_u8 {x : Int} (h0 : 0 ≤ x) (h1 : x < 256) : evBin .shr (.int .u8 x) (.int .u64 4) = some (.int .u8 (x / 16)):=by
 simp only [evBin,evShift]
 rw [if_neg (by decide),if_neg (by decide),Int.fdiv_eq_ediv_of_nonneg _ (by decide)]
 rfl
@[go_sem] theorem and_u8 {x : Int} (h0 : 0 ≤ x) (h1 : x < 256) : evInt .and .u8 x 15 = some (.int .u8 (x % 16)):=by
 obtain ⟨n,rfl⟩:=Int.eq_ofNat_of_zero_le h0
 have hn : n < 256:=by omega
 have : ∀ n : Fin 256,IntKind.u8.wrap (BitVec.ofInt IntKind.u8.bits (n.val : Int) &&& BitVec.ofInt IntKind.u8.bits 15).toNat = (n.val : Int) % 16:=by decide
 simp only [evInt]
 rw [this ⟨n,hn⟩]
@[go_sem] theorem stridx_hex {kk : IntKind} {x : Int} (h0 : 0 ≤ x) (h1 : x < 16) : stridxV (.str ⟨#[48,49,50,51,52,53,54,55,56,57,97,98,99,100,101,102]⟩) (.int kk x) = some (.int .u8 ((hexD x.toNat).toNat : Nat)):=by
 obtain ⟨n,rfl⟩:=Int.eq_ofNat_of_zero_le h0
 have hn : n < 16:=by omega
 have : ∀ n : Fin 16,stridxV (.str ⟨#[48,49,50,51,52,53,54,55,56,57,97,98,99,100,101,102]⟩) (.int kk (n.val : Int)) = some (.int .u8 ((hexD n.val).toNat : Nat)):=by
  intro n
  match n with
  | ⟨n + 16,h⟩=>exact absurd h (by omega)
  | ⟨0,_⟩ | ⟨1,_⟩ | ⟨2,_⟩ | ⟨3,_⟩ | ⟨4,_⟩ | ⟨5,_⟩ | ⟨6,_⟩ | ⟨7,_⟩ | ⟨8,_⟩ | ⟨9,_⟩ | ⟨10,_⟩ | ⟨11,_⟩ | ⟨12,_⟩ | ⟨13,_⟩ | ⟨14,_⟩ | ⟨15,_⟩=>rfl
 exact this ⟨n,hn⟩
@[go_sem] theorem leads_slobj (l t q o n : Nat) : (AV.sl (.obj q) o n).leads (.stk l t) = false:=by
 simp [AV.leads,AV.isAgg,AV.names]
theorem ints_len (l : List UInt8) : (ints l).length = l.length:=by simp [ints]
section
variable {T : Nat → Option MFun} {k : List Item} {kill : List Nat} {r : List MOp} {sl : Slots} {own : Own} {Q : St → Prop}
def WBUo (T : Nat → Option MFun) (cx : Cx) (o : Option AV) (n d : Nat) (r : List MOp) (kill : List Nat) (k : List Item) (sl : Slots) (own : Own) (h : HP) (Q : St → Prop) : Prop :=
 onO o fun w=>W T cx (.ops r kill :: k) ⟨sl.set d (.sl (.obj h.next) 0 n),own,h.nw (.arr n tU8) w⟩ Q
@[go_sem] theorem WBUo_some {n d : Nat} {v : AV} : WBUo T cx (some v) n d r kill k sl own h Q = W T cx (.ops r kill :: k) ⟨sl.set d (.sl (.obj h.next) 0 n),own,h.nw (.arr n tU8) v⟩ Q:=rfl
@[go_sem] theorem W_bsliceUo {n d : Nat} {ps : List (Nat × Opd)} : W T cx (.ops (⟨some d,.bslice true tU8 n ps,none⟩ :: r) kill :: k) ⟨sl,own,h⟩ Q =
  WBUo T cx (fill (.arr n tU8) (Ty.arr n tU8).zero (ps.map fun p=>(p.1,St.opd ⟨sl,own,h⟩ p.2))) n d r kill k sl own h Q:=by
 rw [W_op rfl,evOp]
 simp only [evK,WBUo]
 cases fill (.arr n tU8) (Ty.arr n tU8).zero (ps.map fun p=>(p.1,St.opd ⟨sl,own,h⟩ p.2)) <;> rfl
def WAUo (T : Nat → Option MFun) (cx : Cx) (x : AV) (add : Option (List AV)) (d : Nat) (r : List MOp) (kill : List Nat) (k : List Item) (sl : Slots) (own : Own) (h : HP) (Q : St → Prop) : Prop :=
 onO add fun add=>onO (evAppend (St.look cx ⟨sl,own,h⟩) tU8 x add) fun e=>onO (applyEff cx (some d) true ⟨sl,own,h⟩ e) fun p=>W T cx (.ops r kill :: k) (p.2.setd (some d) p.1) Q
@[go_sem] theorem W_appendUo {d : Nat} {x y : Opd} : W T cx (.ops (⟨some d,.append true [] tU8 x y,none⟩ :: r) kill :: k) ⟨sl,own,h⟩ Q = WAUo T cx (St.opd ⟨sl,own,h⟩ x) (elems (St.look cx ⟨sl,own,h⟩) tU8 (St.opd ⟨sl,own,h⟩ y)) d r kill k sl own h Q:=by
 rw [W_op rfl,evOp]
 simp only [evK,WAUo]
 cases elems (St.look cx ⟨sl,own,h⟩) tU8 (St.opd ⟨sl,own,h⟩ y) with
 | none=>rfl
 | some add =>
  simp only [onO_some]
  cases evAppend (St.look cx ⟨sl,own,h⟩) tU8 (St.opd ⟨sl,own,h⟩ x) add <;> rfl
theorem WAUo_grow {d q len : Nat} {l add : List Int} (hl : cx.prot.lets (.obj q) = true) (hq : h.look (.obj q) = some ⟨.arr len tU8,encU l⟩) (hlen : l.length = len) (ha : 0 < add.length) (hm : len + add.length ≤ 1048576) : WAUo T cx (.sl (.obj q) 0 len) (some (add.map (AV.int .u8))) d r kill k sl own h Q =
  W T cx (.ops r kill :: k) ⟨sl.set d (.sl (.obj h.next) 0 (len + add.length)),own,(h.dl q).nw (.arr (len + add.length) tU8) (encU (l ++ add))⟩ Q:=by
 have hf:=encU_fits (l ++ add) (n:=len + add.length) (by simp [hlen])
 have e : List.map (AV.int .u8) (l ++ add) = (List.map (AV.int .u8) l).take len ++ add.map (AV.int .u8):=by
  rw [List.map_append,List.take_of_length_le (by simp [hlen])]
 simp only [encU,e] at hf ⊢
 simp only [WAUo,onO_some,evAppend,look_obj,hq,encU_toList,List.length_map,Nat.zero_add,List.drop_zero,if_true]
 rw [if_neg (by omega),if_pos (by omega),if_pos ⟨hf,hm⟩]
 simp only [onO_some,applyEff,St.drop,Id.own,hl,if_true,Option.map_some]
 rfl
theorem WAUo_1 {d q len : Nat} {l : List Int} {a : Int} (hl : cx.prot.lets (.obj q) = true) (hq : h.look (.obj q) = some ⟨.arr len tU8,encU l⟩) (hlen : l.length = len) (hm : len ≤ 1000000) : WAUo T cx (.sl (.obj q) 0 len) (some [.int .u8 a]) d r kill k sl own h Q =
  W T cx (.ops r kill :: k) ⟨sl.set d (.sl (.obj h.next) 0 (len + 1)),own,(h.dl q).nw (.arr (len + 1) tU8) (encU (l ++ [a]))⟩ Q :=
 WAUo_grow (add:=[a]) hl hq hlen (by simp) (by simp; omega)
theorem WAUo_3 {d q len : Nat} {l : List Int} {a b c : Int} (hl : cx.prot.lets (.obj q) = true) (hq : h.look (.obj q) = some ⟨.arr len tU8,encU l⟩) (hlen : l.length = len) (hm : len ≤ 1000000) : WAUo T cx (.sl (.obj q) 0 len) (some [.int .u8 a,.int .u8 b,.int .u8 c]) d r kill k sl own h Q =
  W T cx (.ops r kill :: k) ⟨sl.set d (.sl (.obj h.next) 0 (len + 3)),own,(h.dl q).nw (.arr (len + 3) tU8) (encU (l ++ [a,b,c]))⟩ Q :=
 WAUo_grow (add:=[a,b,c]) hl hq hlen (by simp) (by simp; omega)
end
def shB (s : Str) (j : Nat) : List UInt8:=showL (s.data.toList.take j)
def shSt (s : Str) (j : Nat) (a : Nat × HP) : St:=⟨[(0,.str s),(3,.sl (.obj a.1) 0 (shB s j).length),(8,.int .i64 s.size),(9,.int .i64 j)],[],a.2⟩
def ShP (h : HP) (s : Str) (j : Nat) (a : Nat × HP) : Prop:=Fr h a.2 [] ∧ h.next ≤ a.1 ∧ a.2.look (.obj a.1) = some ⟨.arr (shB s j).length tU8,encU (ints (shB s j))⟩
theorem ShP.next {h h1 : HP} {s : Str} {j q : Nat} {add : List UInt8} {n : Nat} {v : AV} (a : ShP h s j (q,h1)) (f : shB s (j + 1) = shB s j ++ add) (hn : n = (shB s j).length + add.length) (hv : v = encU (ints (shB s j) ++ ints add)) : ShP h s (j + 1) (h1.next,(h1.dl q).nw (.arr n tU8) v):=by
 obtain ⟨a1,a2,a3⟩:=a
 refine ⟨(a1.dl a2).trans Fr.nw,a1.next,?_⟩
 have : (HP.nw (h1.dl q) (.arr n tU8) v).look (.obj h1.next) = some ⟨.arr n tU8,v⟩:=look_nw (h:=h1.dl q)
 rw [this,f,hn,hv]
 simp only [List.length_append,ints,List.map_append]
theorem Show_ok {T : Nat → Option MFun} {s : Str} (hl : ∀ n,h.next ≤ n → cx.prot.lets (.obj n) = true) (hs : s.size ≤ 100000) : Ok T cx Fn.text_Show (St.enter [.str s] h) fun v h'=>v = .str (bsL (showL s.data.toList)) ∧ Fr h h' []:=by
 rw [Ok_eq]
 simp (maxSteps:=999999) (disch:=omega) only [go_sem]
 refine W_forE s.size (shSt s) (ShP h s) (h.next,h.nw (.arr 1 tU8) (encU [61])) (by simp only [go_sem] <;> rfl) ⟨Fr.nw,Nat.le_refl _,look_nw⟩ fun j a hj hp ih=>?_
 obtain ⟨q,h1⟩:=a
 have hq:=hl q hp.2.1
 have hlk : h1.look (.obj q) = some ⟨.arr (shB s j).length tU8,encU (ints (shB s j))⟩:=hp.2.2
 simp only [shSt]
 by_cases hlt : j < s.size
 ·have hl : j < s.data.toList.length:=by simpa using hlt
  have hb:=byteAt_lt s j
  have hbe:=byteAt_eq hl
  have hsz : (shB s j).length ≤ 300001:=by
   have:=showL_size (s.data.toList.take j)
   simp only [List.length_take] at this
   unfold shB
   omega
  have fin1 : (33 ≤ byteAt s j ∧ byteAt s j ≤ 126 ∧ byteAt s j ≠ 92) → shB s (j + 1) = shB s j ++ [s.data.toList[j]]:=by
   intro hc
   rw [shB,showL_take hl,show1,← hbe,if_pos hc]; rfl
  have fin2 : ¬(33 ≤ byteAt s j ∧ byteAt s j ≤ 126 ∧ byteAt s j ≠ 92) → shB s (j + 1) = shB s j ++ [92,hexD ((byteAt s j : Int) / 16).toNat,hexD ((byteAt s j : Int) % 16).toNat]:=by
   intro hc
   rw [shB,showL_take hl,show1,← hbe,if_neg hc,show ((byteAt s j : Int) / 16).toNat = byteAt s j / 16 by omega,show ((byteAt s j : Int) % 16).toNat = byteAt s j % 16 by omega]; rfl
  by_cases h1' : 32 < (byteAt s j : Int)
  ·by_cases h2 : (byteAt s j : Int) < 127
   ·by_cases h3 : (byteAt s j : Int) = 92
    ·have f:=fin2 (by omega)
     simp (maxSteps:=999999) (disch:=omega) only [go_sem,hlt,h1',h2,h3]
     rw [WAUo_3 hq hlk (ints_len _) (by omega)]
     simp (maxSteps:=999999) (disch:=omega) only [go_sem,hlt]
     refine ih _ (h1.next,(h1.dl q).nw (.arr ((shB s j).length + 3) tU8) (encU (ints (shB s j) ++ ints [92,hexD ((byteAt s j : Int) / 16).toNat,hexD ((byteAt s j : Int) % 16).toNat]))) hlt ?_ (hp.next f rfl rfl)
     simp only [go_sem,shSt,f,ints,List.length_append,List.length_cons,List.length_nil,List.map_cons,List.map_nil,h3] <;> rfl
    ·have f:=fin1 (by omega)
     simp (maxSteps:=999999) (disch:=omega) only [go_sem,hlt,h1',h2,h3]
     rw [WAUo_1 hq hlk (ints_len _) (by omega)]
     simp (maxSteps:=999999) (disch:=omega) only [go_sem,hlt]
     refine ih _ (h1.next,(h1.dl q).nw (.arr ((shB s j).length + 1) tU8) (encU (ints (shB s j) ++ ints [s.data.toList[j]]))) hlt ?_ (hp.next f rfl rfl)
     simp only [go_sem,shSt,f,ints,List.length_append,List.length_cons,List.length_nil,List.map_cons,List.map_nil,← hbe] <;> rfl
   ·have f:=fin2 (by omega)
    simp (maxSteps:=999999) (disch:=omega) only [go_sem,hlt,h1',h2]
    rw [WAUo_3 hq hlk (ints_len _) (by omega)]
    simp (maxSteps:=999999) (disch:=omega) only [go_sem,hlt]
    refine ih _ (h1.next,(h1.dl q).nw (.arr ((shB s j).length + 3) tU8) (encU (ints (shB s j) ++ ints [92,hexD ((byteAt s j : Int) / 16).toNat,hexD ((byteAt s j : Int) % 16).toNat]))) hlt ?_ (hp.next f rfl rfl)
    simp only [go_sem,shSt,f,ints,List.length_append,List.length_cons,List.length_nil,List.map_cons,List.map_nil] <;> rfl
  ·have f:=fin2 (by omega)
   simp (maxSteps:=999999) (disch:=omega) only [go_sem,hlt,h1']
   rw [WAUo_3 hq hlk (ints_len _) (by omega)]
   simp (maxSteps:=999999) (disch:=omega) only [go_sem,hlt]
   refine ih _ (h1.next,(h1.dl q).nw (.arr ((shB s j).length + 3) tU8) (encU (ints (shB s j) ++ ints [92,hexD ((byteAt s j : Int) / 16).toNat,hexD ((byteAt s j : Int) % 16).toNat]))) hlt ?_ (hp.next f rfl rfl)
   simp only [go_sem,shSt,f,ints,List.length_append,List.length_cons,List.length_nil,List.map_cons,List.map_nil] <;> rfl
 ·obtain rfl : j = s.size:=by omega
  have e : shB s s.size = showL s.data.toList:=by rw [shB,List.take_of_length_le (by simp)]
  rw [e] at hlk ⊢
  have fin : tostrV (elemsU (some ⟨.arr (showL s.data.toList).length tU8,encU (ints (showL s.data.toList))⟩) (showL s.data.toList).length) = some (.str (bsL (showL s.data.toList))):=by
   rw [elemsU_all (by rw [ints_len])]
   simp only [tostrV,bytesOf_map,ints_back,Option.map_some]
   rfl
  simp (maxSteps:=999999) (disch:=omega) only [go_sem,hlk,fin]
  exact hp.1
end
section
variable {cx : Cx} {h : HP}
theorem bsL_inj {a b : List UInt8} : bsL a = bsL b ↔ a = b:=by
 constructor
 ·intro e
  have:=congrArg (fun s : Str=>s.data.toList) e
  simpa [bsL] using this
 ·rintro rfl; rfl
theorem bs61 : (⟨#[61]⟩ : Str) = bsL [61]:=rfl
theorem strsl_drop {l : List UInt8} {n : Nat} (hn : n ≤ l.length) : evStrsl (bsL l) (some (n : Int)) (some (((bsL l).size : Nat) : Int)) = some (.str (bsL (l.drop n))):=by
 rw [evStrsl_ok (by omega) (by rw [bsL_size]; omega) (by omega),Int.toNat_natCast,Int.toNat_natCast]
 congr 2
 apply ByteArray.ext
 simp only [bsL,ByteArray.size,ByteArray.data_extract,List.size_toArray]
 apply Array.toList_inj.1
 simp
 rw [List.take_of_length_le (by simp)]
theorem ext_take {l : List UInt8} {n : Nat} : (bsL l).extract 0 n = bsL (l.take n):=by
 apply ByteArray.ext
 simp only [bsL,ByteArray.data_extract]
 apply Array.toList_inj.1
 simp
theorem ext_drop {l : List UInt8} {n : Nat} : (bsL l).extract n (bsL l).size = bsL (l.drop n):=by
 apply ByteArray.ext
 simp only [bsL,ByteArray.size,ByteArray.data_extract,List.size_toArray]
 apply Array.toList_inj.1
 simp
 rw [List.take_of_length_le (by simp)]
theorem strsl_take {l : List UInt8} {n : Nat} (hn : n ≤ l.length) : evStrsl (bsL l) (some 0) (some (n : Int)) = some (.str (bsL (l.take n))):=by
 rw [evStrsl_ok (by omega) (by omega) (by rw [bsL_size]; omega),Int.toNat_natCast]
 congr 2
 apply ByteArray.ext
 simp only [bsL,ByteArray.data_extract]
 apply Array.toList_inj.1
 simp
theorem HasPrefix_ok {l : List UInt8} (hs : l.length ≤ 100000) : Ok tblT cx Fn.internal_stringslite_HasPrefix (St.enter [.str (bsL l),.str ⟨#[61]⟩] h) fun v h'=>v = .bool (decide (l.head? = some 61)) ∧ h' = h:=by
 have h1 : (⟨#[61]⟩ : Str).size = 1:=rfl
 rw [Ok_eq]
 cases l with
 | nil =>
  have h0 : (bsL []).size = 0:=rfl
  simp (maxSteps:=999999) (disch:=omega) only [go_sem,h0,h1]
  simp
 | cons c r =>
  have h0 : (bsL (c :: r)).size = r.length + 1:=bsL_size _
  have e:=strsl_take (l:=c :: r) (n:=1) (by simp)
  simp (maxSteps:=999999) (disch:=omega) only [go_sem,h0,h1]
  rw [ext_take,bs61]
  simp [bsL_inj]
theorem sCut_ok {l : List UInt8} (hs : l.length ≤ 100000) : Ok tblT cx Fn.internal_stringslite_CutPrefix (St.enter [.str (bsL l),.str ⟨#[61]⟩] h) fun v h' =>
  v = .tup (.cons (.str (bsL (if l.head? = some 61 then l.tail else l))) (.cons (.bool (decide (l.head? = some 61))) .unit)) ∧ h' = h:=by
 have h1 : (⟨#[61]⟩ : Str).size = 1:=rfl
 rw [Ok_eq]
 simp (maxSteps:=999999) (disch:=omega) only [go_sem]
 refine W_callp rfl ⟨rfl,rfl⟩ (by simp only [go_sem]; exact HasPrefix_ok hs) ?_
 by_cases c : l.head? = some 61
 ·obtain ⟨r,rfl⟩ : ∃ r,l = 61 :: r:=by
   cases l with
   | nil=>simp at c
   | cons x r=>simp at c; exact ⟨r,by rw [c]⟩
  have h0 : (bsL (61 :: r)).size = r.length + 1:=bsL_size _
  simp (maxSteps:=999999) (disch:=omega) only [go_sem,c,h0,h1]
  have:=ext_drop (l:=61 :: r) (n:=1)
  rw [h0] at this
  rw [this]
  rfl
 ·simp (maxSteps:=999999) (disch:=omega) only [go_sem,c,h1]
theorem Cut_ok {l : List UInt8} (hs : l.length ≤ 100000) : Ok tblT cx Fn.strings_CutPrefix (St.enter [.str (bsL l),.str ⟨#[61]⟩] h) fun v h' =>
  v = .tup (.cons (.str (bsL (if l.head? = some 61 then l.tail else l))) (.cons (.bool (decide (l.head? = some 61))) .unit)) ∧ h' = h:=by
 rw [Ok_eq]
 simp (maxSteps:=999999) (disch:=omega) only [go_sem]
 refine W_callp rfl ⟨rfl,rfl⟩ (by simp only [go_sem]; exact sCut_ok hs) ?_
 simp (maxSteps:=999999) (disch:=omega) only [go_sem]
theorem Pu_ok {b : Str} (hb : b.size = 2) : Ok tblT cx Fn.strconv_ParseUint (St.enter [.str b,.int .i64 16,.int .i64 8] h) fun v h' =>
  v = .tup (.cons (.int .u64 ((hex2 b).getD 0 : Nat)) (.cons (.iface (hex2 b).isNone) .unit)) ∧ h' = h:=by
 have e1 : pPu [.str b,.int .i64 16,.int .i64 8] = some (.int .u64 ((hex2 b).getD 0 : Nat)):=by simp only [pPu]; rw [if_pos hb]
 have e2 : pPe [.str b,.int .i64 16,.int .i64 8] = some (.iface (hex2 b).isNone):=by simp only [pPe]; rw [if_pos hb]
 rw [Ok_eq]
 simp (maxSteps:=999999) (disch:=omega) only [go_sem,List.map_cons,List.map_nil,e1,e2]
 rfl
end
def hexP (x y : UInt8) : Option UInt8:=match hexV x,hexV y with
 | some p,some q=>some (UInt8.ofNat (16 * p + q))
 | _,_=>none
def unsh : List UInt8 → Option (List UInt8)
 | []=>some []
 | [c]=>if c.toNat = 92 then none else some [c]
 | [c,x]=>if c.toNat = 92 then none else (unsh [x]).map (c :: ·)
 | c :: x :: y :: r=>if c.toNat = 92 then (match hexP x y with
   | some v=>(unsh r).map (v :: ·)
   | none=>none) else (unsh (x :: y :: r)).map (c :: ·)
theorem unsh_nil : unsh [] = some []:=rfl
theorem unsh_plain {c : UInt8} {r : List UInt8} (hc : ¬c.toNat = 92) : unsh (c :: r) = (unsh r).map (c :: ·):=by
 match r with
 | []=>simp only [unsh,hc,if_false,Option.map_some]
 | [x]=>simp only [unsh,hc,if_false]
 | x :: y :: r=>rw [unsh,if_neg hc]
theorem unsh_short {c : UInt8} {r : List UInt8} (hc : c.toNat = 92) (hr : r.length < 2) : unsh (c :: r) = none:=by
 match r,hr with
 | [],_=>rw [unsh,if_pos hc]
 | [x],_=>rw [unsh,if_pos hc]
 | x :: y :: r,h=>simp only [List.length_cons] at h; omega
theorem unsh_hex {c x y : UInt8} {r : List UInt8} (hc : c.toNat = 92) : unsh (c :: x :: y :: r) = match hexP x y with
  | some v=>(unsh r).map (v :: ·)
  | none=>none:=by
 rw [unsh,if_pos hc]
theorem hex2_two {x y : UInt8} : hex2 (bsL [x,y]) = match hexV x,hexV y with
  | some p,some q=>some (16 * p + q)
  | _,_=>none:=rfl
theorem hexV_lt {c : UInt8} {n : Nat} (h : hexV c = some n) : n < 16:=by
 unfold hexV at h
 split at h
 ·simp at h; omega
 ·split at h
  ·simp only [Option.some.injEq] at h; omega
  ·simp at h
theorem hex_none {x y : UInt8} (e : hex2 (bsL [x,y]) = none) : hexP x y = none:=by
 rw [hex2_two] at e
 unfold hexP
 cases hp : hexV x with
 | none=>rfl
 | some p=>cases hq : hexV y with
  | none=>rfl
  | some q=>rw [hp,hq] at e; simp at e
theorem hex_some {x y : UInt8} {n : Nat} (e : hex2 (bsL [x,y]) = some n) : n < 256 ∧ hexP x y = some (UInt8.ofNat n):=by
 rw [hex2_two] at e
 unfold hexP
 cases hp : hexV x with
 | none=>rw [hp] at e; simp at e
 | some p=>cases hq : hexV y with
  | none=>rw [hp,hq] at e; simp at e
  | some q =>
   rw [hp,hq] at e
   have h1:=hexV_lt hp
   have h2:=hexV_lt hq
   simp only [Option.some.injEq] at e
   subst e
   exact ⟨by omega,rfl⟩
def meanL (l : List UInt8) : Option (List UInt8) :=
 if l.head? = some 61 then match unsh l.tail with
  | some o=>if showL o = l then some o else none
  | none=>none
 else none
section
variable {cx : Cx} {h : HP}
@[go_sem] theorem stridx_head {kk : IntKind} {c : UInt8} {r : List UInt8} : stridxV (.str (bsL (c :: r))) (.int kk 0) = some (.int .u8 (c.toNat : Nat)):=by
 have : (bsL (c :: r))[(0 : Int).toNat]? = some c:=by
  show (bsL (c :: r))[0]? = some c
  rw [getElem?_pos (bsL (c :: r)) 0 (by rw [bsL_size]; simp)]
  rfl
 simp only [stridxV,toIx]
 rw [if_pos (by omega),this]
 rfl
@[go_sem] theorem strsl_tail {c : UInt8} {r : List UInt8} : evStrsl (bsL (c :: r)) (some 1) (some (((bsL (c :: r)).size : Nat) : Int)) = some (.str (bsL r)) :=
 strsl_drop (l:=c :: r) (n:=1) (by simp)
@[go_sem] theorem strsl_two {x y : UInt8} {r : List UInt8} : evStrsl (bsL (x :: y :: r)) (some 0) (some 2) = some (.str (bsL [x,y])) :=
 strsl_take (l:=x :: y :: r) (n:=2) (by simp)
@[go_sem] theorem strsl_tail2 {x y : UInt8} {r : List UInt8} : evStrsl (bsL (x :: y :: r)) (some 2) (some (((bsL (x :: y :: r)).size : Nat) : Int)) = some (.str (bsL r)) :=
 strsl_drop (l:=x :: y :: r) (n:=2) (by simp)
theorem bsL_ne {c : UInt8} {r : List UInt8} : ¬bsL (c :: r) = ⟨#[]⟩:=fun e=>by
 have:=bsL_inj.1 (show bsL (c :: r) = bsL [] from e)
 simp at this
theorem bsL_nil : (bsL [] = ⟨#[]⟩) = True:=by simp only [eq_iff_iff,iff_true]; rfl
section
variable {T : Nat → Option MFun} {k : List Item} {kill : List Nat} {r : List MOp} {sl : Slots} {own : Own} {Q : St → Prop}
theorem WAU_nil1 {d : Nat} {a : Int} : WAU T cx .nilsl (some [.int .u8 a]) d r kill k sl own h Q =
  W T cx (.ops r kill :: k) ⟨(Slots.forget sl (.stk cx.lvl d)).set d (.sl (.stk cx.lvl d) 0 1),own.set d ⟨.arr 1 tU8,encU [a]⟩,h⟩ Q :=
 WAU_nil (add:=[a]) (by simp) (by simp)
theorem WAU_grow1 {d t len : Nat} {l : List Int} {a : Int} (hb : own.get t = some ⟨.arr len tU8,encU l⟩) (hl : l.length = len) (hm : len ≤ 1000000) : WAU T cx (.sl (.stk cx.lvl t) 0 len) (some [.int .u8 a]) d r kill k sl own h Q =
  W T cx (.ops r kill :: k) ⟨(Slots.forget sl (.stk cx.lvl d)).set d (.sl (.stk cx.lvl d) 0 (len + 1)),(own.rid t).set d ⟨.arr (len + 1) tU8,encU (l ++ [a])⟩,h⟩ Q :=
 WAU_grow (add:=[a]) hb hl (by simp) (by simp; omega)
end
@[go_sem] theorem tostrV_ints (l : List UInt8) : tostrV (some ((ints l).map (AV.int .u8))) = some (.str (bsL l)):=by
 simp only [tostrV,bytesOf_map,ints_back,Option.map_some]
 rfl
@[go_sem] theorem tostrV_nil : tostrV (some []) = some (.str (bsL [])):=rfl
theorem ShowL_ok {l : List UInt8} (hl : ∀ n,h.next ≤ n → cx.prot.lets (.obj n) = true) (hs : l.length ≤ 100000) : Ok tblT cx Fn.text_Show (St.enter [.str (bsL l)] h) fun v h'=>Fr h h' [] ∧ v = .str (bsL (showL l)) :=
 (Show_ok (s:=bsL l) hl (by rw [bsL_size]; exact hs)).mono fun v h' e=>⟨e.2,e.1⟩
@[go_sem] theorem safe_iface (b : Bool) : (AV.iface b).safe = true:=rfl
@[go_sem] theorem wrap8 {n : Int} (h0 : 0 ≤ n) (h1 : n < 256) : IntKind.u8.wrap n = n:=by
 obtain ⟨m,rfl⟩:=Int.eq_ofNat_of_zero_le h0
 have hm : m < 256:=by omega
 have : ∀ m : Fin 256,IntKind.u8.wrap (m.val : Int) = (m.val : Int):=by decide
 exact this ⟨m,hm⟩
def meV (cx : Cx) (o : List UInt8) : AV:=match o with
 | []=>.nilsl
 | _=>.sl (.stk cx.lvl 43) 0 o.length
def meO (o : List UInt8) : Own:=match o with
 | []=>[]
 | _=>[(43,⟨.arr o.length tU8,encU (ints o)⟩)]
def meSt (cx : Cx) (h : HP) (l : List UInt8) (a : List UInt8 × List UInt8) : St:=⟨[(0,.str (bsL l)),(4,.str (bsL a.1)),(6,meV cx a.2)],meO a.2,h⟩
theorem Mean_ok {l : List UInt8} (hl : ∀ n,h.next ≤ n → cx.prot.lets (.obj n) = true) (hs : l.length ≤ 10000) : Ok tblT cx Fn.text_Mean (St.enter [.str (bsL l)] h) fun v h' =>
  v = .tup (.cons (.str (bsL ((meanL l).getD []))) (.cons (.bool (meanL l).isSome) .unit)) ∧ Fr h h' []:=by
 rw [Ok_eq]
 simp (maxSteps:=999999) (disch:=omega) only [go_sem]
 refine W_callp rfl ⟨rfl,rfl⟩ (by simp only [go_sem]; exact Cut_ok (by omega)) ?_
 by_cases c0 : l.head? = some 61
 ·simp (maxSteps:=999999) (disch:=omega) only [go_sem,c0]
  refine W_forE l.length (fun _=>meSt cx h l) (fun j a=>j + a.1.length ≤ l.length ∧ a.2.length ≤ j ∧ unsh l.tail = (unsh a.1).map (a.2 ++ ·)) (l.tail,[]) (by simp only [go_sem] <;> rfl) ⟨by simp,by simp,by simp⟩ fun j a hj hp ih=>?_
  obtain ⟨rest,o⟩:=a
  obtain ⟨p1,p2,p3⟩:=hp
  simp only at p1 p2 p3
  simp only [meSt]
  cases rest with
  | nil =>
   have q3 : unsh l.tail = some o:=by rw [p3,unsh_nil]; simp
   cases o with
   | nil =>
    simp only [meV,meO]
    simp (maxSteps:=999999) (disch:=omega) only [go_sem,bsL_nil]
    refine W_callF (S:=[]) (R:=fun v h'=>v = .str (bsL (showL ([])))) rfl ⟨rfl,rfl⟩ (by simp only [go_sem]; exact ShowL_ok (l:=[]) (fun n hn=>hl n hn) (by simp only [List.length_cons,List.length_nil] at p1 p2 ⊢; omega)) (fun v h1 e=>e) fun v h1 hF hv=>?_
    subst hv
    by_cases c5 : showL ([]) = l
    ·have f : meanL l = some ([]):=by rw [meanL,if_pos c0,q3]; exact if_pos c5
     simp (maxSteps:=999999) (disch:=omega) only [go_sem,bsL_inj,c5,f]
     exact ⟨rfl,hF⟩
    ·have f : meanL l = none:=by rw [meanL,if_pos c0,q3]; exact if_neg c5
     simp (maxSteps:=999999) (disch:=omega) only [go_sem,bsL_inj,c5,f]
     exact ⟨rfl,hF⟩
   | cons b o =>
    have e:=elemsU_all (n:=(b :: o).length) (l:=ints (b :: o)) (ints_len _).symm
    simp only [meV,meO]
    simp (maxSteps:=999999) (disch:=omega) only [go_sem,bsL_nil,e]
    refine W_callF (S:=[]) (R:=fun v h'=>v = .str (bsL (showL (b :: o)))) rfl ⟨rfl,rfl⟩ (by simp only [go_sem]; exact ShowL_ok (l:=b :: o) (fun n hn=>hl n hn) (by simp only [List.length_cons,List.length_nil] at p1 p2 ⊢; omega)) (fun v h1 e=>e) fun v h1 hF hv=>?_
    subst hv
    by_cases c5 : showL (b :: o) = l
    ·have f : meanL l = some (b :: o):=by rw [meanL,if_pos c0,q3]; exact if_pos c5
     simp (maxSteps:=999999) (disch:=omega) only [go_sem,bsL_inj,c5,f,e]
     exact ⟨rfl,hF⟩
    ·have f : meanL l = none:=by rw [meanL,if_pos c0,q3]; exact if_neg c5
     simp (maxSteps:=999999) (disch:=omega) only [go_sem,bsL_inj,c5,f,e]
     exact ⟨rfl,hF⟩
  | cons c r =>
   by_cases c1 : (c.toNat : Int) = 92
   ·have c2 : c.toNat = 92:=by omega
    match r,p1,p3 with
    | [],p1,p3 =>
     have f : meanL l = none:=by rw [meanL,if_pos c0,p3,unsh_short c2 (by simp)]; rfl
     have h0 : (bsL []).size = 0:=rfl
     cases o <;> simp only [meV,meO] <;> simp (maxSteps:=999999) (disch:=omega) only [go_sem,bsL_ne,c1,h0,f]
     all_goals exact ⟨rfl,Fr.refl _ _⟩
    | [x],p1,p3 =>
     have f : meanL l = none:=by rw [meanL,if_pos c0,p3,unsh_short c2 (by simp)]; rfl
     have h0 : (bsL [x]).size = 1:=bsL_size _
     cases o <;> simp only [meV,meO] <;> simp (maxSteps:=999999) (disch:=omega) only [go_sem,bsL_ne,c1,h0,f]
     all_goals exact ⟨rfl,Fr.refl _ _⟩
    | x :: y :: r,p1,p3 =>
     have h0 : (bsL (x :: y :: r)).size = r.length + 2:=bsL_size _
     have h2 : (bsL [x,y]).size = 2:=rfl
     have x2 : (bsL (x :: y :: r)).extract 0 2 = bsL [x,y]:=ext_take
     have x3 : (bsL (x :: y :: r)).extract 2 (bsL (x :: y :: r)).size = bsL r:=ext_drop
     cases o with
     | nil =>
      simp only [meV,meO]
      simp (maxSteps:=999999) (disch:=omega) only [go_sem,bsL_ne,c1,h0,x2]
      refine W_callp rfl ⟨rfl,rfl⟩ (by simp only [go_sem]; exact Pu_ok h2) ?_
      cases e : hex2 (bsL [x,y]) with
      | none =>
       have f : meanL l = none:=by
        rw [meanL,if_pos c0,p3,unsh_hex c2,hex_none e]; rfl
       simp (maxSteps:=999999) (disch:=omega) only [go_sem,e,f,Option.isNone_none]
       exact ⟨rfl,Fr.refl _ _⟩
      | some n =>
       obtain ⟨n1,n2⟩:=hex_some e
       have n3 : (UInt8.ofNat n).toNat = n:=by simp [Nat.mod_eq_of_lt n1]
       simp (maxSteps:=999999) (disch:=omega) only [go_sem,e,Option.isNone_some,Option.getD_some,x3]
       rw [WAU_nil1]
       simp (maxSteps:=999999) (disch:=omega) only [go_sem]
       refine ih _ (r,[UInt8.ofNat n]) (by simp only [List.length_cons] at p1; omega) ?_ ⟨by simp only [List.length_cons] at p1 ⊢; omega,by simp only [List.length_append,List.length_cons,List.length_nil] at p2 ⊢; omega,?_⟩
       ·simp only [go_sem,meSt,meV,meO,ints,n3,List.map_cons,List.map_nil,List.cons_append,List.map_append,List.length_append,List.length_cons,List.length_nil] <;> rfl
       ·rw [p3,unsh_hex c2,n2]; cases unsh r <;> simp
     | cons b o =>
      simp only [meV,meO]
      simp (maxSteps:=999999) (disch:=omega) only [go_sem,bsL_ne,c1,h0,x2]
      refine W_callp rfl ⟨rfl,rfl⟩ (by simp only [go_sem]; exact Pu_ok h2) ?_
      cases e : hex2 (bsL [x,y]) with
      | none =>
       have f : meanL l = none:=by
        rw [meanL,if_pos c0,p3,unsh_hex c2,hex_none e]; rfl
       simp (maxSteps:=999999) (disch:=omega) only [go_sem,e,f,Option.isNone_none]
       exact ⟨rfl,Fr.refl _ _⟩
      | some n =>
       obtain ⟨n1,n2⟩:=hex_some e
       have n3 : (UInt8.ofNat n).toNat = n:=by simp [Nat.mod_eq_of_lt n1]
       simp (maxSteps:=999999) (disch:=omega) only [go_sem,e,Option.isNone_some,Option.getD_some,x3]
       rw [WAU_grow1 (l:=ints (b :: o))]
       ·simp (maxSteps:=999999) (disch:=omega) only [go_sem]
        refine ih _ (r,b :: o ++ [UInt8.ofNat n]) (by simp only [List.length_cons] at p1; omega) ?_ ⟨by simp only [List.length_cons] at p1 ⊢; omega,by simp only [List.length_append,List.length_cons,List.length_nil] at p2 ⊢; omega,?_⟩
        ·simp only [go_sem,meSt,meV,meO,ints,n3,List.map_cons,List.map_nil,List.cons_append,List.map_append,List.length_append,List.length_cons,List.length_nil] <;> rfl
        ·rw [p3,unsh_hex c2,n2]; cases unsh r <;> simp
       ·rfl
       ·exact ints_len _
       ·simp only [List.length_cons] at p1 p2 ⊢; omega
   ·have f : unsh (c :: r) = (unsh r).map (c :: ·):=unsh_plain (by omega)
    cases o with
    | nil =>
     simp only [meV,meO]
     simp (maxSteps:=999999) (disch:=omega) only [go_sem,bsL_ne,c1]
     rw [WAU_nil1]
     simp (maxSteps:=999999) (disch:=omega) only [go_sem]
     refine ih _ (r,[c]) (by simp only [List.length_cons] at p1; omega) ?_ ⟨by simp only [List.length_cons] at p1 ⊢; omega,by simp,?_⟩
     ·simp only [go_sem,meSt,meV,meO,ints,List.map_cons,List.map_nil,List.length_cons,List.length_nil] <;> rfl
     ·rw [p3,f]; cases unsh r <;> simp
    | cons b o =>
     simp only [meV,meO]
     simp (maxSteps:=999999) (disch:=omega) only [go_sem,bsL_ne,c1]
     rw [WAU_grow1 (l:=ints (b :: o))]
     ·simp (maxSteps:=999999) (disch:=omega) only [go_sem]
      refine ih _ (r,b :: o ++ [c]) (by simp only [List.length_cons] at p1; omega) ?_ ⟨by simp only [List.length_cons] at p1 ⊢; omega,by simp only [List.length_append,List.length_cons,List.length_nil] at p2 ⊢; omega,?_⟩
      ·simp only [go_sem,meSt,meV,meO,ints,List.map_cons,List.map_nil,List.cons_append,List.map_append,List.length_append,List.length_cons,List.length_nil] <;> rfl
      ·rw [p3,f]; cases unsh r <;> simp
     ·rfl
     ·exact ints_len _
     ·simp only [List.length_cons] at p1 p2 ⊢; omega
 ·have f : meanL l = none:=by rw [meanL,if_neg c0]
  simp (maxSteps:=999999) (disch:=omega) only [go_sem,c0,f]
  exact ⟨rfl,Fr.refl _ _⟩
end
section
variable {cx : Cx} {h : HP}
theorem Itoa_ok {n : Int} (hn : i64 n) : Ok tblT cx Fn.strconv_Itoa (St.enter [.int .i64 n] h) fun v h'=>v = .str (bsL (numL n)) ∧ h' = h:=by
 have e : pItoa [.int .i64 n] = some (.str (bsL (numL n))):=by simp only [pItoa]; rw [if_pos hn]; rfl
 rw [Ok_eq]
 simp (maxSteps:=999999) (disch:=omega) only [go_sem,List.map_cons,List.map_nil,e]
theorem Rnum_ok {n : Int} (hn : i64 n) : Ok tblT cx Fn.r_num (St.enter [.int .i64 n] h) fun v h'=>v = .str (bsL (numL n)) ∧ h' = h:=by
 rw [Ok_eq]
 simp (maxSteps:=999999) (disch:=omega) only [go_sem]
 refine W_callp rfl ⟨rfl,rfl⟩ (by simp only [go_sem]; exact Itoa_ok hn) ?_
 simp (maxSteps:=999999) (disch:=omega) only [go_sem]
theorem Ent.enc_inj {a b : Ent} (e : a.enc = b.enc) : a = b:=by
 cases a; cases b
 simp only [Ent.enc,AV.cons.injEq,AV.str.injEq,AV.int.injEq,true_and,and_true] at e
 obtain ⟨rfl,rfl,rfl⟩:=e
 rfl
theorem Dat.enc_inj {a b : Dat} (e : a.enc = b.enc) : a = b:=by
 cases a; cases b
 simp only [Dat.enc,AV.cons.injEq,AV.str.injEq,AV.int.injEq,true_and,and_true] at e
 obtain ⟨rfl,rfl⟩:=e
 rfl
theorem encV_inj {α : Type} {n : Nat} {f : α → AV} (hf : ∀ a b,f a = f b → a = b) {v w : Vector α n} (e : encV f v = encV f w) : v = w:=by
 simp only [encV,AV.arr.injEq,heq_eq_eq,true_and] at e
 apply Vector.ext
 intro i hi
 exact hf _ _ (congrFun e ⟨i,hi⟩)
theorem Ino.enc_inj {a b : Ino} (e : a.enc = b.enc) : a = b:=by
 cases a; cases b
 simp only [Ino.enc,AV.cons.injEq,AV.bool.injEq,AV.int.injEq,true_and,and_true] at e
 obtain ⟨rfl,rfl,rfl,e⟩:=e
 rw [encV_inj (fun a b h=>by simpa using h) e]
theorem Img.enc_inj {a b : Img} (e : a.enc = b.enc) : a = b:=by
 cases a; cases b
 simp only [Img.enc,AV.cons.injEq,and_true] at e
 obtain ⟨e1,e2,e3⟩:=e
 rw [encV_inj (fun _ _=>Ino.enc_inj) e1,encV_inj (fun _ _ h=>encV_inj (fun _ _=>Ent.enc_inj) h) e2,encV_inj (fun _ _=>Dat.enc_inj) e3]
theorem pPrint_enc {m : Img} (hm : m.slim) : pPrint [m.enc] = some (.str (bsL (textL m))):=by
 have h : ∃ m' : Img,m.enc = m'.enc ∧ m'.slim:=⟨m,rfl,hm⟩
 have e : h.choose = m:=(Img.enc_inj h.choose_spec.1).symm
 simp only [pPrint]
 rw [dif_pos h,e]
 rfl
variable {p : Id} {q : List Nat}
theorem Print_ok {m : Img} (hb : p.below cx.lvl) (hm : h.rd p q = some m.enc) (hsl : m.slim) : Ok tblT cx Fn.text_Print (St.enter [.ptr p q tImage] h) fun v h'=>v = .str (bsL (textL m)) ∧ h' = h:=by
 have e:=pPrint_enc hsl
 rw [Ok_eq]
 have e2 : fitO tImage (h.rd p q) = some m.enc:=by rw [hm]; exact fitO_some (fits_img' m)
 simp (maxSteps:=999999) (disch:=omega) only [go_sem,rd_ext hb,e2,List.map_cons,List.map_nil,e]
end
theorem hexV_D {n : Nat} (hn : n < 16) : hexV (hexD n) = some n:=by
 have : ∀ n : Fin 16,hexV (hexD n.val) = some n.val:=by decide
 exact this ⟨n,hn⟩
theorem hexD_range {n : Nat} (hn : n < 16) : 33 ≤ (hexD n).toNat ∧ (hexD n).toNat ≤ 126:=by
 have : ∀ n : Fin 16,33 ≤ (hexD n.val).toNat ∧ (hexD n.val).toNat ≤ 126:=by decide
 exact this ⟨n,hn⟩
theorem unsh_show1 {c : UInt8} {r : List UInt8} : unsh (show1 c ++ r) = (unsh r).map (c :: ·):=by
 unfold show1
 split
 ·rename_i hc
  exact unsh_plain hc.2.2
 ·have hc:=c.toNat_lt
  show unsh (92 :: hexD (c.toNat / 16) :: hexD (c.toNat % 16) :: r) = _
  rw [unsh_hex rfl]
  have : hexP (hexD (c.toNat / 16)) (hexD (c.toNat % 16)) = some c:=by
   unfold hexP
   rw [hexV_D (by omega),hexV_D (by omega)]
   simp only
   rw [show 16 * (c.toNat / 16) + c.toNat % 16 = c.toNat by omega,UInt8.ofNat_toNat]
  rw [this]
theorem unsh_show (l : List UInt8) : unsh (l.flatMap show1) = some l:=by
 induction l with
 | nil=>rfl
 | cons c l ih=>rw [List.flatMap_cons,unsh_show1,ih]; rfl
theorem meanL_show (l : List UInt8) : meanL (showL l) = some l:=by
 have h1 : (showL l).head? = some 61:=rfl
 have h2 : (showL l).tail = l.flatMap show1:=rfl
 rw [meanL,if_pos h1,h2,unsh_show]
 exact if_pos rfl
theorem meanL_back {l o : List UInt8} (h : meanL l = some o) : showL o = l:=by
 unfold meanL at h
 split at h <;> try (simp at h; done)
 split at h <;> try (simp at h; done)
 split at h <;> try (simp at h; done)
 rename_i e
 simp only [Option.some.injEq] at h
 rw [← h]; exact e
theorem showL_inj {a b : List UInt8} : showL a = showL b ↔ a = b:=by
 constructor
 ·intro e
  have:=meanL_show a
  rw [e,meanL_show] at this
  exact (Option.some.inj this).symm
 ·rintro rfl; rfl
theorem show1_range {c x : UInt8} (h : x ∈ show1 c) : 33 ≤ x.toNat ∧ x.toNat ≤ 126:=by
 unfold show1 at h
 split at h
 ·rename_i hc
  simp only [List.mem_singleton] at h
  subst h
  exact ⟨hc.1,hc.2.1⟩
 ·have hc:=c.toNat_lt
  simp only [List.mem_cons,List.not_mem_nil,or_false] at h
  rcases h with rfl | rfl | rfl
  ·decide
  ·exact hexD_range (by omega)
  ·exact hexD_range (by omega)
theorem showL_range {l : List UInt8} {x : UInt8} (h : x ∈ showL l) : 33 ≤ x.toNat ∧ x.toNat ≤ 126:=by
 simp only [showL,List.mem_cons,List.mem_flatMap] at h
 rcases h with rfl | ⟨c,_,h⟩
 ·decide
 ·exact show1_range h
theorem num_d {n : Nat} (h : n < 10) : numL (n : Int) = [UInt8.ofNat (48 + n)]:=by
 unfold numL Lib.itoa
 rw [if_neg (by omega),Int.toNat_natCast,Lib.decDigits,dif_pos h]
theorem num_neg1 : numL (-1) = [45,49]:=by
 unfold numL Lib.itoa
 rw [if_pos (by omega)]
 show 45 :: Lib.decDigits 1 = _
 rw [Lib.decDigits,dif_pos (by omega)]
 rfl
theorem one_text : textL Img.one = [105,110,111,100,101,32,50,32,53,32,49,32,45,49,32,51,10,101,110,116,114,121,32,49,32,50,32,97,32,50,32,53,10,100,97,116,97,32,51,32,53,32,61,120,10]:=by
 have n1 : numL 1 = [49]:=num_d (n:=1) (by omega)
 have n2 : numL 2 = [50]:=num_d (n:=2) (by omega)
 have n3 : numL 3 = [51]:=num_d (n:=3) (by omega)
 have n5 : numL 5 = [53]:=num_d (n:=5) (by omega)
 have i : (List.finRange 8).flatMap (fun n : Fin 8=>inoL n.val Img.one.inode[n]) = [105,110,111,100,101,32,50,32,53,32,49,32,45,49,32,51,10]:=by
  have e : ∀ n : Fin 8,n.val ≠ 2 → inoL n.val Img.one.inode[n] = []:=by
   intro n hn
   match n with
   | ⟨0,_⟩ | ⟨1,_⟩ | ⟨3,_⟩ | ⟨4,_⟩ | ⟨5,_⟩ | ⟨6,_⟩ | ⟨7,_⟩=>rfl
   | ⟨2,_⟩=>exact absurd rfl hn
  show ([0,1,2,3,4,5,6,7] : List (Fin 8)).flatMap _ = _
  simp only [List.flatMap_cons,List.flatMap_nil,e 0 (by decide),e 1 (by decide),e 3 (by decide),e 4 (by decide),e 5 (by decide),e 6 (by decide),e 7 (by decide),List.nil_append,List.append_nil]
  show lineL ["inode".toUTF8.data.toList, numL 2, numL 5, numL 1, numL (-1), numL 3] = _
  rw [n1,n2,n3,n5,num_neg1]
  rfl
 have d : ((List.finRange 3).flatMap fun d : Fin 3=>(List.finRange 4).flatMap fun s : Fin 4=>entL d.val s.val Img.one.dir[d][s]) = [101,110,116,114,121,32,49,32,50,32,97,32,50,32,53,10]:=by
  have e : ∀ (d : Fin 3) (s : Fin 4),¬(d.val = 1 ∧ s.val = 2) → entL d.val s.val Img.one.dir[d][s] = []:=by
   intro d s hn
   match d,s with
   | ⟨0,_⟩,⟨0,_⟩ | ⟨0,_⟩,⟨1,_⟩ | ⟨0,_⟩,⟨2,_⟩ | ⟨0,_⟩,⟨3,_⟩ | ⟨1,_⟩,⟨0,_⟩ | ⟨1,_⟩,⟨1,_⟩ | ⟨1,_⟩,⟨3,_⟩ | ⟨2,_⟩,⟨0,_⟩ | ⟨2,_⟩,⟨1,_⟩ | ⟨2,_⟩,⟨2,_⟩ | ⟨2,_⟩,⟨3,_⟩=>rfl
   | ⟨1,_⟩,⟨2,_⟩=>exact absurd ⟨rfl,rfl⟩ hn
  show ([0,1,2] : List (Fin 3)).flatMap (fun d : Fin 3=>([0,1,2,3] : List (Fin 4)).flatMap fun s : Fin 4=>entL d.val s.val Img.one.dir[d][s]) = _
  simp only [List.flatMap_cons,List.flatMap_nil,e 0 0 (by decide),e 0 1 (by decide),e 0 2 (by decide),e 0 3 (by decide),e 1 0 (by decide),e 1 1 (by decide),e 1 3 (by decide),e 2 0 (by decide),e 2 1 (by decide),e 2 2 (by decide),e 2 3 (by decide),List.nil_append,List.append_nil]
  show lineL ["entry".toUTF8.data.toList, numL 1, numL 2, [97], numL 2, numL 5] = _
  rw [n1,n2,n5]
  rfl
 have x : (List.finRange 9).flatMap (fun x : Fin 9=>datL x.val Img.one.data[x]) = [100,97,116,97,32,51,32,53,32,61,120,10]:=by
  have e : ∀ n : Fin 9,n.val ≠ 3 → datL n.val Img.one.data[n] = []:=by
   intro n hn
   match n with
   | ⟨0,_⟩ | ⟨1,_⟩ | ⟨2,_⟩ | ⟨4,_⟩ | ⟨5,_⟩ | ⟨6,_⟩ | ⟨7,_⟩ | ⟨8,_⟩=>rfl
   | ⟨3,_⟩=>exact absurd rfl hn
  show ([0,1,2,3,4,5,6,7,8] : List (Fin 9)).flatMap _ = _
  simp only [List.flatMap_cons,List.flatMap_nil,e 0 (by decide),e 1 (by decide),e 2 (by decide),e 4 (by decide),e 5 (by decide),e 6 (by decide),e 7 (by decide),e 8 (by decide),List.nil_append,List.append_nil]
  show lineL ["data".toUTF8.data.toList, numL 3, numL 5, showL [120]] = _
  rw [n3,n5]
  rfl
 rw [textL,i,d,x]
 rfl
theorem one_slim : Img.one.slim:=by
 unfold Img.slim
 decide
section
variable {cx : Cx} {h : HP}
def meanA (l : List UInt8) : AV:=.tup (.cons (.str (bsL ((meanL l).getD []))) (.cons (.bool (meanL l).isSome) .unit))
theorem MeanL_ok {l : List UInt8} (hl : ∀ n,h.next ≤ n → cx.prot.lets (.obj n) = true) (hs : l.length ≤ 10000) : Ok tblT cx Fn.text_Mean (St.enter [.str (bsL l)] h) fun v h'=>Fr h h' [] ∧ v = meanA l :=
 (Mean_ok hl hs).mono fun v h' e=>⟨e.2,e.1⟩
theorem textBegun_ok (hl : ∀ n,h.next ≤ n → cx.prot.lets (.obj n) = true) : Ok tblT cx Fn.w_textBegun (St.enter [] h) fun v h'=>v = .bool true ∧ Fr h h' []:=by
 have m1 : meanA [61,97,92,50,48] = .tup (.cons (.str (bsL [97,32])) (.cons (.bool true) .unit)):=by rw [meanA,show meanL [61,97,92,50,48] = some [97,32] from by decide]; rfl
 have m2 : meanA [97] = .tup (.cons (.str (bsL [])) (.cons (.bool false) .unit)):=by rw [meanA,show meanL [97] = none from by decide]; rfl
 rw [Ok_eq]
 simp (maxSteps:=999999) (disch:=omega) only [go_sem]
 refine W_callp rfl ⟨rfl,rfl⟩ (by simp only [go_sem]; exact upT (upE (up one_ok))) ?_
 simp (maxSteps:=999999) (disch:=omega) only [go_sem]
 refine W_callF (S:=[]) (R:=fun v h'=>v = meanA [61,97,92,50,48]) rfl ⟨rfl,rfl⟩ (by simp only [go_sem]; exact MeanL_ok (l:=[61,97,92,50,48]) (fun n hn=>hl n hn) (by simp)) (fun v h1 e=>e) fun v h1 hF hv=>?_
 subst hv
 simp (maxSteps:=999999) (disch:=omega) only [go_sem,m1]
 refine W_callF (S:=[]) (R:=fun v h'=>v = meanA [97]) rfl ⟨rfl,rfl⟩ (by simp only [go_sem]; exact MeanL_ok (l:=[97]) (fun n hn=>hl n (Nat.le_trans hF.next hn)) (by simp)) (fun v h1 e=>e) fun v h2 hF2 hv=>?_
 subst hv
 simp (maxSteps:=999999) (disch:=omega) only [go_sem,m2]
 refine W_callp rfl ⟨rfl,rfl⟩ (by simp only [go_sem]; exact Print_ok (m:=Img.one) (below_stk _ _) (by simp only [go_sem,HP.push_rd_own]) one_slim) ?_
 have e1 : (bsL (textL Img.one) = ⟨#[105,110,111,100,101,32,50,32,53,32,49,32,45,49,32,51,10,101,110,116,114,121,32,49,32,50,32,97,32,50,32,53,10,100,97,116,97,32,51,32,53,32,61,120,10]⟩) = True:=by rw [one_text]; simp only [eq_iff_iff,iff_true]; rfl
 have e2 : (bsL [97,32] = ⟨#[97,32]⟩) = True:=by simp only [eq_iff_iff,iff_true]; rfl
 simp (maxSteps:=999999) (disch:=omega) only [go_sem,e1,e2]
 have hF3:=hF.trans hF2
 refine W_callF (S:=[]) (R:=fun v h'=>v = .str (bsL (showL [97,32]))) rfl ⟨rfl,rfl⟩ (by simp only [go_sem]; exact ShowL_ok (l:=[97,32]) (fun n hn=>hl n (Nat.le_trans hF3.next hn)) (by simp)) (fun v h1 e=>e) fun v h4 hF4 hv=>?_
 subst hv
 have e3 : (bsL (showL [97,32]) = ⟨#[61,97,92,50,48]⟩) = True:=by simp only [eq_iff_iff,iff_true]; decide
 simp (maxSteps:=999999) (disch:=omega) only [go_sem,e3]
 exact hF3.trans hF4
end
theorem showL_ge (l : List UInt8) : l.length ≤ (showL l).length:=by
 induction l with
 | nil=>simp
 | cons c l ih =>
  simp only [showL,List.length_cons,List.flatMap_cons,List.length_append] at ih ⊢
  have : 1 ≤ (show1 c).length:=by unfold show1; split <;> simp
  omega
section
variable {cx : Cx} {h : HP}
theorem begunF_ok (hl : ∀ n,h.next ≤ n → cx.prot.lets (.obj n) = true) : Ok tblT cx Fn.w_textBegun (St.enter [] h) fun v h'=>Fr h h' [] ∧ v = .bool true :=
 (textBegun_ok hl).mono fun v h' e=>⟨e.2,e.1⟩
theorem TextBack_ok {a b : List UInt8} (hl : ∀ n,h.next ≤ n → cx.prot.lets (.obj n) = true) (ha : a.length < 4611686018427387904) (hb : b.length < 4611686018427387904) : Ok tblT cx Fn.w_TextBack (St.enter [.str (bsL a),.str (bsL b)] h) fun v h'=>v = .bool true ∧ Fr h h' []:=by
 have za:=bsL_size a
 have zb:=bsL_size b
 rw [Ok_eq]
 simp (maxSteps:=999999) (disch:=omega) only [go_sem]
 refine W_callF (S:=[]) (R:=fun v h'=>v = .bool true) rfl ⟨rfl,rfl⟩ (by simp only [go_sem]; exact begunF_ok (fun n hn=>hl n hn)) (fun v h1 e=>e) fun v h1 hF1 hv=>?_
 subst hv
 simp (maxSteps:=999999) (disch:=omega) only [go_sem,za,zb]
 by_cases c0 : (a.length : Int) + b.length > 2000
 ·simp (maxSteps:=999999) (disch:=omega) only [go_sem,c0]
  exact hF1
 ·simp (maxSteps:=999999) (disch:=omega) only [go_sem,c0]
  refine W_callF (S:=[]) (R:=fun v h'=>v = .str (bsL (showL a))) rfl ⟨rfl,rfl⟩ (by simp only [go_sem]; exact ShowL_ok (l:=a) (fun n hn=>hl n (Nat.le_trans hF1.next hn)) (by omega)) (fun v h1 e=>e) fun v h2 hF2 hv=>?_
  subst hv
  have hF2:=hF1.trans hF2
  have sz:=showL_size a
  simp (maxSteps:=999999) (disch:=omega) only [go_sem]
  refine W_callF (S:=[]) (R:=fun v h'=>v = meanA (showL a)) rfl ⟨rfl,rfl⟩ (by simp only [go_sem]; exact MeanL_ok (l:=showL a) (fun n hn=>hl n (Nat.le_trans hF2.next hn)) (by omega)) (fun v h1 e=>e) fun v h3 hF3 hv=>?_
  subst hv
  have hF3:=hF2.trans hF3
  have m1 : meanA (showL a) = .tup (.cons (.str (bsL a)) (.cons (.bool true) .unit)):=by rw [meanA,meanL_show]; rfl
  simp (maxSteps:=999999) (disch:=omega) only [go_sem,m1]
  refine W_callF (S:=[]) (R:=fun v h'=>v = .str (bsL (showL b))) rfl ⟨rfl,rfl⟩ (by simp only [go_sem]; exact ShowL_ok (l:=b) (fun n hn=>hl n (Nat.le_trans hF3.next hn)) (by omega)) (fun v h1 e=>e) fun v h4 hF4 hv=>?_
  subst hv
  have hF4:=hF3.trans hF4
  have m2 : (bsL (showL b) = bsL (showL a)) = (a = b):=by rw [bsL_inj,showL_inj]; exact propext eq_comm
  have m3 : (bsL a = bsL b) = (a = b):=propext bsL_inj
  simp (maxSteps:=999999) (disch:=omega) only [go_sem,m2,m3]
  have zs:=bsL_size (showL a)
  refine W_forP (showL a).length (fun j=>⟨[(1,.str (bsL b)),(5,.str (bsL (showL a))),(8,.int .i64 j)],[],h4⟩) (fun _=>True) (by simp only [go_sem] <;> rfl) trivial fun j hj _ ih=>?_
  by_cases hlt : j < (showL a).length
  ·have hj1 : j < (bsL (showL a)).data.toList.length:=by simpa [bsL] using hlt
   have hr : 33 ≤ byteAt (bsL (showL a)) j ∧ byteAt (bsL (showL a)) j ≤ 126:=by
    rw [byteAt_eq hj1]
    exact showL_range (l:=a) (by have:=List.getElem_mem hj1; simpa [bsL] using this)
   obtain ⟨hr1,hr2⟩:=hr
   have hjs : j < (bsL (showL a)).size:=by omega
   simp (maxSteps:=999999) (disch:=omega) only [go_sem,zs,hlt,hjs]
   refine ih _ hlt trivial ?_
   simp only [go_sem]
  ·obtain rfl : j = (showL a).length:=by omega
   simp (maxSteps:=999999) (disch:=omega) only [go_sem,zs]
   refine W_callF (S:=[]) (R:=fun v h'=>v = meanA b) rfl ⟨rfl,rfl⟩ (by simp only [go_sem]; exact MeanL_ok (l:=b) (fun n hn=>hl n (Nat.le_trans hF4.next hn)) (by omega)) (fun v h1 e=>e) fun v h5 hF5 hv=>?_
   subst hv
   have hF5:=hF4.trans hF5
   cases e : meanL b with
   | none =>
    have m4 : meanA b = .tup (.cons (.str (bsL [])) (.cons (.bool false) .unit)):=by rw [meanA,e]; rfl
    simp (maxSteps:=999999) (disch:=omega) only [go_sem,m4,bsL_nil]
    exact hF5
   | some y =>
    have m4 : meanA b = .tup (.cons (.str (bsL y)) (.cons (.bool true) .unit)):=by rw [meanA,e]; rfl
    have m5:=meanL_back e
    have zy : y.length ≤ 100000:=by
     have:=showL_ge y
     rw [m5] at this
     omega
    simp (maxSteps:=999999) (disch:=omega) only [go_sem,m4]
    refine W_callF (S:=[]) (R:=fun v h'=>v = .str (bsL (showL y))) rfl ⟨rfl,rfl⟩ (by simp only [go_sem]; exact ShowL_ok (l:=y) (fun n hn=>hl n (Nat.le_trans hF5.next hn)) zy) (fun v h1 e=>e) fun v h6 hF6 hv=>?_
    subst hv
    simp (maxSteps:=999999) (disch:=omega) only [go_sem,m5]
    exact hF5.trans hF6
end
theorem show1_pre {a b : UInt8} {r s : List UInt8} (e : show1 a ++ r = show1 b ++ s) : a = b ∧ r = s:=by
 have h1:=unsh_show1 (c:=a) (r:=r)
 have hl : ∀ c : UInt8,(show1 c).length = 1 ∧ show1 c = [c] ∧ c.toNat ≠ 92 ∨ (show1 c).length = 3 ∧ ∃ x y,show1 c = [92,x,y] ∧ hexP x y = some c:=by
  intro c
  unfold show1
  split
  ·rename_i hc; exact .inl ⟨rfl,rfl,hc.2.2⟩
  ·have hc:=c.toNat_lt
   refine .inr ⟨rfl,_,_,rfl,?_⟩
   unfold hexP
   rw [hexV_D (by omega),hexV_D (by omega)]
   simp only
   rw [show 16 * (c.toNat / 16) + c.toNat % 16 = c.toNat by omega,UInt8.ofNat_toNat]
 rcases hl a with ⟨_,ea,na⟩ | ⟨_,x,y,ea,ha⟩ <;> rcases hl b with ⟨_,eb,nb⟩ | ⟨_,x',y',eb,hb⟩ <;> rw [ea,eb] at e <;> simp only [List.cons_append,List.nil_append,List.cons.injEq] at e
 ·exact ⟨e.1,e.2⟩
 ·exact absurd (by rw [e.1]; rfl) na
 ·exact absurd (by rw [← e.1]; rfl) nb
 ·obtain ⟨_,rfl,rfl,e⟩:=e
  rw [ha] at hb
  exact ⟨Option.some.inj hb,e⟩
theorem showL_split {y o : List UInt8} {rest : List UInt8} (e : y.flatMap show1 = o.flatMap show1 ++ rest) : ∃ z,y = o ++ z ∧ z.flatMap show1 = rest:=by
 induction o generalizing y with
 | nil=>exact ⟨y,rfl,e⟩
 | cons c o ih =>
  cases y with
  | nil =>
   have:=congrArg List.length e
   have h1 : 1 ≤ (show1 c).length:=by unfold show1; split <;> simp
   simp only [List.flatMap_nil,List.flatMap_cons,List.length_nil,List.length_append] at this
   omega
  | cons d y =>
   simp only [List.flatMap_cons,List.append_assoc] at e
   obtain ⟨rfl,e2⟩:=show1_pre e
   obtain ⟨z,rfl,hz⟩:=ih e2
   exact ⟨z,rfl,hz⟩
theorem meant_none {l o rest : List UInt8} (e : l = showL o ++ rest) (hr : rest ≠ []) (hn : ∀ c : UInt8,¬show1 c <+: rest) : meanL l = none:=by
 cases h : meanL l with
 | none=>rfl
 | some y =>
  exfalso
  have hb:=meanL_back h
  rw [e] at hb
  simp only [showL,List.cons_append,List.cons.injEq,true_and] at hb
  obtain ⟨z,rfl,hz⟩:=showL_split hb
  cases z with
  | nil=>exact hr hz.symm
  | cons c z=>exact hn c ⟨z.flatMap show1,by rw [← hz]; rfl⟩
theorem meant_head {l : List UInt8} (h : ¬l.head? = some 61) : meanL l = none:=by rw [meanL,if_neg h]
theorem meant_some {l o : List UInt8} (e : l = showL o) : meanL l = some o:=by rw [e,meanL_show]
section
variable {cx : Cx} {h : HP}
theorem Shown1_ok {c : UInt8} : Ok tblT cx Fn.r_Shown (St.enter [.str (bsL [c])] h) fun v h'=>v = .str (bsL (61 :: show1 c)) ∧ h' = h:=by
 have e:=Shown_ok (cx:=cx) (h:=h) (s:=bsL [c]) (by rw [bsL_size]; simp)
 have : showL (bsL [c]).data.toList = 61 :: show1 c:=by simp [bsL,showL]
 rw [this] at e
 exact e
theorem tostr_one {j : Nat} (hj : j < 256) : tostrV (some [.int .u8 (j : Nat)]) = some (.str (bsL [UInt8.ofNat j])):=by
 have e:=tostrV_ints [UInt8.ofNat j]
 have : (ints [UInt8.ofNat j]).map (AV.int .u8) = [.int .u8 (j : Nat)]:=by simp [ints,Nat.mod_eq_of_lt hj]
 rw [this] at e
 exact e
theorem strsl_mid {l : List UInt8} {i k : Nat} (hk : i + k ≤ l.length) : evStrsl (bsL l) (some (i : Int)) (some ((i : Int) + (k : Int))) = some (.str (bsL ((l.drop i).take k))):=by
 rw [evStrsl_ok (by omega) (by omega) (by rw [bsL_size]; omega),Int.toNat_natCast,show ((i : Int) + (k : Int)).toNat = i + k by omega]
 congr 2
 apply ByteArray.ext
 apply Array.ext
 ·simp [bsL]
 ·intro n h1 h2
  simp [bsL]
def mtIn (l : List UInt8) (h : HP) (o : List UInt8) (j : Nat) (a : Option UInt8) : St:=match a with
 | none=>⟨[(0,.str (bsL l)),(4,.str (bsL o)),(5,.int .i64 ((showL o).length : Nat)),(6,.bool false),(7,.int .i64 (j : Nat))],[],h⟩
 | some u=>⟨[(0,.str (bsL l)),(4,.str (bsL (o ++ [u]))),(5,.int .i64 ((showL (o ++ [u])).length : Nat)),(6,.bool true),(7,.int .i64 (j : Nat))],[],h⟩
def mtP (rest : List UInt8) (j : Nat) (a : Option UInt8) : Prop:=match a with
 | none=>∀ c : UInt8,c.toNat < j → ¬show1 c <+: rest
 | some u=>show1 u <+: rest
def mtSt (l : List UInt8) (h : HP) (o : List UInt8) (at_ : Nat) : St:=⟨[(0,.str (bsL l)),(4,.str (bsL o)),(5,.int .i64 (at_ : Nat))],[],h⟩
theorem Meant_ok {l : List UInt8} (hs : l.length ≤ 10000) : Ok tblT cx Fn.r_Meant (St.enter [.str (bsL l)] h) fun v h'=>v = meanA l ∧ h' = h:=by
 have zl:=bsL_size l
 rw [Ok_eq]
 cases l with
 | nil =>
  have f : meanL [] = none:=by decide
  have z0 : (bsL []).size = 0:=rfl
  simp (maxSteps:=999999) (disch:=omega) only [go_sem,meanA,f,z0,bsL_nil]
  rfl
 | cons c0 l =>
  have n0 : ¬(((c0 :: l).length : Nat) : Int) = 0:=by simp only [List.length_cons]; omega
  by_cases c1 : c0.toNat = 61
  ·have c1' : (c0.toNat : Int) = 61:=by omega
   simp (maxSteps:=999999) (disch:=omega) only [go_sem,zl,n0,c1']
   obtain rfl : c0 = 61:=UInt8.toNat_inj.1 c1
   refine W_forE ((61 :: l).length) (fun _ a=>mtSt (61 :: l) h a ((showL a).length)) (fun j a=>j ≤ (showL a).length ∧ ∃ r,61 :: l = showL a ++ r) [] (by simp only [go_sem] <;> rfl) ⟨by simp,l,rfl⟩ fun j o hj hp ih=>?_
   obtain ⟨p1,rest,p2⟩:=hp
   have pl : (61 :: l).length = (showL o).length + rest.length:=by rw [p2,List.length_append]
   have pz:=showL_ge o
   simp only [mtSt]
   cases rest with
   | nil =>
    have f : meanL (61 :: l) = some o:=meant_some (by rw [p2,List.append_nil])
    have q : ¬(showL o).length < (61 :: l).length:=by simp only [List.length_nil] at pl; omega
    simp (maxSteps:=999999) (disch:=omega) only [go_sem,zl,q,meanA,f]
    rfl
   | cons c1 r =>
    have q : (showL o).length < (61 :: l).length:=by simp only [List.length_cons] at pl ⊢; omega
    simp (maxSteps:=999999) (disch:=omega) only [go_sem,zl,q]
    refine W_forE 256 (fun i a=>mtIn (61 :: l) h o i a) (fun i a=>mtP (c1 :: r) i a) none (by simp only [go_sem] <;> rfl) (fun c hc=>by omega) fun i a hi hpi ihi=>?_
    cases a with
    | some u =>
     simp only [mtP] at hpi
     obtain ⟨r',hr'⟩:=hpi
     simp only [mtIn]
     have hx2 : showL (o ++ [u]) = showL o ++ show1 u:=by simp only [showL,List.flatMap_append,List.flatMap_cons,List.flatMap_nil,List.append_nil,List.cons_append]
     have hx : (showL (o ++ [u])).length = (showL o).length + (show1 u).length:=by rw [hx2,List.length_append]
     have hx1 : 1 ≤ (show1 u).length:=by unfold show1; split <;> simp
     by_cases hi2 : i < 256
     all_goals (
      simp (maxSteps:=999999) (disch:=omega) only [go_sem,hi2]
      refine ih _ (o ++ [u]) (by omega) ?_ ⟨?_,r',?_⟩
      ·simp only [go_sem,mtSt]
      ·rw [hx]; omega
      ·rw [hx2,List.append_assoc,hr',p2])
    | none =>
     simp only [mtP] at hpi
     simp only [mtIn]
     by_cases hi2 : i < 256
     ·have ht:=tostr_one hi2
      generalize hu : UInt8.ofNat i = u at ht
      have hui : u.toNat = i:=by rw [← hu]; simp [Nat.mod_eq_of_lt hi2]
      have hx2 : showL (o ++ [u]) = showL o ++ show1 u:=by simp only [showL,List.flatMap_append,List.flatMap_cons,List.flatMap_nil,List.append_nil,List.cons_append]
      have hx : (showL (o ++ [u])).length = (showL o).length + (show1 u).length:=by rw [hx2,List.length_append]
      have hx3 : (show1 u).length ≤ 3:=by unfold show1; split <;> simp
      have zu:=bsL_size (show1 u)
      simp (maxSteps:=999999) (disch:=omega) only [go_sem,hi2,ht]
      refine W_callp rfl ⟨rfl,rfl⟩ (by simp only [go_sem]; exact Shown1_ok) ?_
      simp (maxSteps:=999999) (disch:=omega) only [go_sem]
      by_cases hfit : (showL o).length + (show1 u).length ≤ (61 :: l).length
      ·have hm:=strsl_mid (l:=61 :: l) hfit
       have hd : (61 :: l).drop (showL o).length = c1 :: r:=by rw [p2,List.drop_left]
       rw [hd] at hm
       have hfi : ((showL o).length : Int) + ((show1 u).length : Int) ≤ (((61 :: l).length : Nat) : Int):=by omega
       by_cases hq : (c1 :: r).take (show1 u).length = show1 u
       ·rw [hq] at hm
        have hadd:=add_bsL1 (a:=o) (c:=u) (by omega)
        simp (maxSteps:=999999) (disch:=omega) only [go_sem,zl,zu,hfi,hm,ht,hadd]
        refine ihi _ (some u) hi2 ?_ (List.prefix_iff_eq_take.2 hq.symm)
        simp only [go_sem,mtIn,hx,Int.natCast_add]
       ·have hqb : (bsL ((c1 :: r).take (show1 u).length) = bsL (show1 u)) = False:=by rw [bsL_inj]; exact eq_false hq
        simp (maxSteps:=999999) (disch:=omega) only [go_sem,zl,zu,hfi,hm,hqb]
        refine ihi _ none hi2 ?_ (fun c hc hcp=>?_)
        ·simp only [go_sem,mtIn]
        ·by_cases hce : c.toNat = i
         ·obtain rfl : c = u:=UInt8.toNat_inj.1 (by omega)
          exact hq (List.prefix_iff_eq_take.1 hcp).symm
         ·exact hpi c (by omega) hcp
      ·have hfi : ¬((showL o).length : Int) + ((show1 u).length : Int) ≤ (((61 :: l).length : Nat) : Int):=by omega
       simp (maxSteps:=999999) (disch:=omega) only [go_sem,zl,zu,hfi]
       refine ihi _ none hi2 ?_ (fun c hc hcp=>?_)
       ·simp only [go_sem,mtIn]
       ·by_cases hce : c.toNat = i
        ·obtain rfl : c = u:=UInt8.toNat_inj.1 (by omega)
         have:=hcp.length_le
         omega
        ·exact hpi c (by omega) hcp
     ·have f : meanL (61 :: l) = none:=meant_none p2 (by simp) (fun c=>hpi c (by have:=c.toNat_lt; omega))
      simp (maxSteps:=999999) (disch:=omega) only [go_sem,hi2,meanA,f,bsL_nil]
      rfl
  ·have f : meanL (c0 :: l) = none:=meant_head (by simp only [List.head?_cons,Option.some.injEq]; rintro rfl; exact c1 rfl)
   have c1' : ¬(c0.toNat : Int) = 61:=by omega
   simp (maxSteps:=999999) (disch:=omega) only [go_sem,zl,n0,c1',meanA,f,bsL_nil]
   rfl
end
def catN (k : Nat) (f : Nat → List UInt8) : List UInt8:=(List.range k).flatMap f
theorem catN_succ (k : Nat) (f : Nat → List UInt8) : catN (k + 1) f = catN k f ++ f k:=by
 simp only [catN,List.range_succ,List.flatMap_append,List.flatMap_cons,List.flatMap_nil,List.append_nil]
theorem catN_zero (f : Nat → List UInt8) : catN 0 f = []:=rfl
theorem fin_catN {n : Nat} {g : Fin n → List UInt8} {f : Nat → List UInt8} (h : ∀ i : Fin n,g i = f i.val) : (List.finRange n).flatMap g = catN n f:=by
 have : g = fun i=>f i.val:=funext h
 have e : (List.finRange n).map Fin.val = List.range n:=List.ext_getElem (by simp) fun i h1 h2=>by simp
 rw [this,catN,← e,List.flatMap_map]
theorem text_cat (m : Img) : textL m = catN 8 (fun n=>inoL n (m.ino n)) ++ catN 3 (fun d=>catN 4 fun s=>entL d s (m.ent d s)) ++ catN 9 (fun x=>datL x (m.dat x)):=by
 unfold textL
 rw [fin_catN (f:=fun n=>inoL n (m.ino n)),fin_catN (f:=fun d=>catN 4 fun s=>entL d s (m.ent d s)),fin_catN (f:=fun x=>datL x (m.dat x))]
 ·intro i; show datL i.val m.data[i.val] = _; rw [dat_eq]
 ·intro d; exact fin_catN fun s=>by show entL d.val s.val (m.dir[d.val])[s.val] = _; rw [ent_eq]
 ·intro i; show inoL i.val m.inode[i.val] = _; rw [ino_eq]
theorem num_len {n : Int} (h : i64 n) : (numL n).length ≤ 21:=by
 obtain ⟨h0,h1⟩:=h
 unfold numL Lib.itoa
 split
 ·have h3:=Lib.nDigits_le20 n.natAbs (by omega)
  simp only [List.length_cons,Lib.decDigits_length]
  have : (-n).toNat = n.natAbs:=by omega
  rw [← this] at h3
  first | omega | (simp only [this] at *; omega)
 ·rw [Lib.decDigits_length]; exact Nat.le_trans (Lib.nDigits_le20 _ (by omega)) (by omega)
theorem lineL_one (x : List UInt8) : lineL [x] = x ++ [10]:=by rw [lineL,Lib.join_one]
theorem lineL_cons (x y : List UInt8) (r : List (List UInt8)) : lineL (x :: y :: r) = x ++ 32 :: lineL (y :: r):=by
 simp only [lineL,Lib.join_cons,Lib.joinTail,List.map_cons,List.flatten_cons,List.append_assoc,List.cons_append,List.nil_append]
theorem i64_nat {n : Nat} (h : n < 100) : i64 (n : Int):=⟨by omega,by omega⟩
theorem slim_ino {m : Img} (h : m.slim) (n : Nat) : i64 (m.ino n).stamp ∧ i64 (m.ino n).links ∧ i64 ((m.ino n).prt 0) ∧ i64 ((m.ino n).prt 1):=by
 unfold Img.ino
 split
 ·rename_i hn; exact h.1 ⟨n,hn⟩
 ·decide
theorem slim_ent {m : Img} (h : m.slim) (d s : Nat) : i64 (m.ent d s).ino ∧ i64 (m.ent d s).stamp ∧ (m.ent d s).name.size ≤ 10000:=by
 unfold Img.ent
 split
 ·rename_i hn; exact h.2.1 ⟨d,hn.1⟩ ⟨s,hn.2⟩
 ·decide
theorem slim_dat {m : Img} (h : m.slim) (x : Nat) : i64 (m.dat x).of ∧ (m.dat x).text.size ≤ 10000:=by
 unfold Img.dat
 split
 ·rename_i hn; exact h.2.2 ⟨x,hn⟩
 ·decide
theorem inoL_eq (n : Nat) (i : Ino) : inoL n i = if i.live then [105,110,111,100,101] ++ 32 :: (numL n ++ 32 :: (numL i.stamp ++ 32 :: (numL i.links ++ 32 :: (numL (i.prt 0) ++ 32 :: (numL (i.prt 1) ++ [10]))))) else []:=by
 unfold inoL
 rw [show "inode".toUTF8.data.toList = [105, 110, 111, 100, 101] from rfl]
 simp only [lineL_cons,lineL_one]
 rfl
theorem entL_eq (d s : Nat) (e : Ent) : entL d s e = if e.name.size ≠ 0 then [101,110,116,114,121] ++ 32 :: (numL d ++ 32 :: (numL s ++ 32 :: (e.name.data.toList ++ 32 :: (numL e.ino ++ 32 :: (numL e.stamp ++ [10]))))) else []:=by
 unfold entL
 rw [show "entry".toUTF8.data.toList = [101, 110, 116, 114, 121] from rfl]
 simp only [lineL_cons,lineL_one]
theorem datL_eq (x : Nat) (y : Dat) : datL x y = if y.of ≠ 0 then [100,97,116,97] ++ 32 :: (numL x ++ 32 :: (numL y.of ++ 32 :: (showL y.text.data.toList ++ [10]))) else []:=by
 unfold datL
 rw [show "data".toUTF8.data.toList = [100, 97, 116, 97] from rfl]
 simp only [lineL_cons,lineL_one]
theorem inoL_len {m : Img} (h : m.slim) (n : Nat) (hn : n < 100) : (inoL n (m.ino n)).length ≤ 200:=by
 obtain ⟨h1,h2,h3,h4⟩:=slim_ino h n
 have:=num_len h1; have:=num_len h2; have:=num_len h3; have:=num_len h4; have:=num_len (i64_nat hn)
 rw [inoL_eq]
 split
 ·simp only [List.length_append,List.length_cons,List.length_nil]; omega
 ·simp
theorem entL_len {m : Img} (h : m.slim) (d s : Nat) (hd : d < 100) (hs : s < 100) : (entL d s (m.ent d s)).length ≤ 10200:=by
 obtain ⟨h1,h2,h3⟩:=slim_ent h d s
 have:=num_len h1; have:=num_len h2; have:=num_len (i64_nat hd); have:=num_len (i64_nat hs)
 rw [entL_eq]
 split
 ·have : (m.ent d s).name.data.toList.length = (m.ent d s).name.size:=by simp
  simp only [List.length_append,List.length_cons,List.length_nil]; omega
 ·simp
theorem datL_len {m : Img} (h : m.slim) (x : Nat) (hx : x < 100) : (datL x (m.dat x)).length ≤ 30200:=by
 obtain ⟨h1,h2⟩:=slim_dat h x
 have:=num_len h1; have:=num_len (i64_nat hx)
 rw [datL_eq]
 split
 ·have:=showL_size (m.dat x).text.data.toList
  have : (m.dat x).text.data.toList.length = (m.dat x).text.size:=by simp
  simp only [List.length_append,List.length_cons,List.length_nil]; omega
 ·simp
def tInoT (m : Img) (n : Nat) : List UInt8:=catN n fun n=>inoL n (m.ino n)
def tRowT (m : Img) (d s : Nat) : List UInt8:=catN s fun s=>entL d s (m.ent d s)
def tDirT (m : Img) (d : Nat) : List UInt8:=catN d fun d=>tRowT m d 4
def tDatT (m : Img) (x : Nat) : List UInt8:=catN x fun x=>datL x (m.dat x)
theorem catN_le' {f : Nat → List UInt8} {c k : Nat} (h : ∀ i,i < k → (f i).length ≤ c) : (catN k f).length ≤ k * c:=by
 induction k with
 | zero=>simp [catN_zero]
 | succ k ih =>
  rw [catN_succ,List.length_append,Nat.add_mul,Nat.one_mul]
  have:=h k (by omega)
  have:=ih fun i hi=>h i (by omega)
  omega
theorem tInoT_le {m : Img} (h : m.slim) {n : Nat} (hn : n ≤ 8) : (tInoT m n).length ≤ 1600:=Nat.le_trans (catN_le' fun i hi=>inoL_len h i (by omega)) (by omega)
theorem tRowT_le {m : Img} (h : m.slim) {d s : Nat} (hd : d < 3) (hs : s ≤ 4) : (tRowT m d s).length ≤ 40800:=Nat.le_trans (catN_le' fun i hi=>entL_len h d i (by omega) (by omega)) (by omega)
theorem tDirT_le {m : Img} (h : m.slim) {d : Nat} (hd : d ≤ 3) : (tDirT m d).length ≤ 122400:=Nat.le_trans (catN_le' fun i hi=>tRowT_le h (by omega) (Nat.le_refl _)) (by omega)
theorem tDatT_le {m : Img} (h : m.slim) {x : Nat} (hx : x ≤ 9) : (tDatT m x).length ≤ 271800:=Nat.le_trans (catN_le' fun i hi=>datL_len h i (by omega)) (by omega)
section
variable {cx : Cx} {h : HP} {p : Id} {q : List Nat} {m : Img}
theorem TextOf_ok (hb : p.below cx.lvl) (hm : h.rd p q = some m.enc) (hs : m.slim) : Ok tblT cx Fn.r_TextOf (St.enter [.ptr p q tImage] h) fun v h'=>v = .str (bsL (textL m)) ∧ h' = h:=by
 have k32 : ∀ {a : List UInt8},a.length ≤ 1000000 → evStr .add (bsL a) ⟨#[32]⟩ = some (.str (bsL (a ++ [32]))):=fun h=>add_bsL (b:=[32]) (by simp; omega)
 have k10 : ∀ {a : List UInt8},a.length ≤ 1000000 → evStr .add (bsL a) ⟨#[10]⟩ = some (.str (bsL (a ++ [10]))):=fun h=>add_bsL (b:=[10]) (by simp; omega)
 have ki : ∀ {b : List UInt8},b.length ≤ 1000000 → evStr .add ⟨#[105,110,111,100,101,32]⟩ (bsL b) = some (.str (bsL ([105,110,111,100,101,32] ++ b))):=fun h=>add_bsL (a:=[105,110,111,100,101,32]) (by simp; omega)
 have ke : ∀ {b : List UInt8},b.length ≤ 1000000 → evStr .add ⟨#[101,110,116,114,121,32]⟩ (bsL b) = some (.str (bsL ([101,110,116,114,121,32] ++ b))):=fun h=>add_bsL (a:=[101,110,116,114,121,32]) (by simp; omega)
 have kd : ∀ {b : List UInt8},b.length ≤ 1000000 → evStr .add ⟨#[100,97,116,97,32]⟩ (bsL b) = some (.str (bsL ([100,97,116,97,32] ++ b))):=fun h=>add_bsL (a:=[100,97,116,97,32]) (by simp; omega)
 have kk : ∀ {a b : List UInt8},a.length + b.length ≤ 1000000 → evStr .add (bsL a) (bsL b) = some (.str (bsL (a ++ b))):=fun h=>add_bsL (by omega)
 have z0 : bsL [] = ⟨#[]⟩:=rfl
 rw [Ok_eq]
 simp (maxSteps:=999999) (disch:=omega) only [go_sem]
 refine W_forP 8 (fun n=>⟨[(0,.ptr p q tImage),(3,.str (bsL (tInoT m n))),(4,.int .i64 n)],[],h⟩) (fun _=>True) (by simp only [go_sem] <;> rfl) trivial fun n hn _ ih=>?_
 by_cases hlt : n < 8
 ·have e : tInoT m (n + 1) = tInoT m n ++ inoL n (m.ino n):=catN_succ _ _
  rw [inoL_eq] at e
  have L0:=tInoT_le hs (n:=n) (by omega)
  obtain ⟨h1,h2,h3,h4⟩:=slim_ino hs n
  have l1:=num_len h1; have l2:=num_len h2; have l3:=num_len h3; have l4:=num_len h4; have hn1:=i64_nat (n:=n) (by omega); have l5:=num_len hn1
  cases hl : (m.ino n).live with
  | false =>
   rw [hl] at e
   simp (maxSteps:=999999) (disch:=omega) only [go_sem,hlt,rd_ext hb,HP.rd_app hm,fg_ptr hb,leads_ptr hb,apart_ptr hb,hl]
   refine ih _ hlt trivial ?_
   simp only [go_sem,e,Bool.false_eq_true,if_false,List.append_nil]
  | true =>
   rw [hl] at e
   simp (maxSteps:=999999) (disch:=omega) only [go_sem,hlt,rd_ext hb,HP.rd_app hm,fg_ptr hb,leads_ptr hb,apart_ptr hb,hl]
   refine W_callp rfl ⟨rfl,rfl⟩ (by simp only [go_sem]; exact Rnum_ok hn1) ?_
   simp (maxSteps:=999999) (disch:=first | omega | (simp only [List.length_append,List.length_cons,List.length_nil]; omega)) only [go_sem,rd_ext hb,HP.rd_app hm,fg_ptr hb,leads_ptr hb,apart_ptr hb,k32,ki,kk]
   refine W_callp rfl ⟨rfl,rfl⟩ (by simp only [go_sem]; exact Rnum_ok h1) ?_
   simp (maxSteps:=999999) (disch:=first | omega | (simp only [List.length_append,List.length_cons,List.length_nil]; omega)) only [go_sem,rd_ext hb,HP.rd_app hm,fg_ptr hb,leads_ptr hb,apart_ptr hb,k32,ki,kk]
   refine W_callp rfl ⟨rfl,rfl⟩ (by simp only [go_sem]; exact Rnum_ok h2) ?_
   simp (maxSteps:=999999) (disch:=first | omega | (simp only [List.length_append,List.length_cons,List.length_nil]; omega)) only [go_sem,rd_ext hb,HP.rd_app hm,fg_ptr hb,leads_ptr hb,apart_ptr hb,k32,ki,kk]
   refine W_callp rfl ⟨rfl,rfl⟩ (by simp only [go_sem]; exact Rnum_ok h3) ?_
   simp (maxSteps:=999999) (disch:=first | omega | (simp only [List.length_append,List.length_cons,List.length_nil]; omega)) only [go_sem,rd_ext hb,HP.rd_app hm,fg_ptr hb,leads_ptr hb,apart_ptr hb,k32,ki,kk]
   refine W_callp rfl ⟨rfl,rfl⟩ (by simp only [go_sem]; exact Rnum_ok h4) ?_
   simp (maxSteps:=999999) (disch:=first | omega | (simp only [List.length_append,List.length_cons,List.length_nil]; omega)) only [go_sem,rd_ext hb,HP.rd_app hm,fg_ptr hb,leads_ptr hb,apart_ptr hb,k32,k10,ki,kk]
   refine ih _ hlt trivial ?_
   simp only [go_sem,e,if_true,List.append_assoc,List.cons_append,List.nil_append]
 ·obtain rfl : n = 8:=by omega
  have L8:=tInoT_le hs (n:=8) (by omega)
  generalize hA : tInoT m 8 = A at L8
  have kn : ∀ {a : List UInt8} {d s : Nat},a.length ≤ 400000 → evStr .add (bsL a) (m.ent d s).name = some (.str (bsL (a ++ (m.ent d s).name.data.toList))):=fun {a d s} h=>by
   have:=(slim_ent hs d s).2.2
   have e : (m.ent d s).name = bsL (m.ent d s).name.data.toList:=rfl
   have e2 : (m.ent d s).name.data.toList.length = (m.ent d s).name.size:=by simp
   rw [e]
   exact add_bsL (by rw [e2]; omega)
  simp (maxSteps:=999999) (disch:=omega) only [go_sem]
  refine W_forP 3 (fun d=>⟨[(0,.ptr p q tImage),(3,.str (bsL (A ++ tDirT m d))),(6,.int .i64 d)],[],h⟩) (fun _=>True) (by rw [show tDirT m 0 = [] from rfl,List.append_nil]; simp only [go_sem] <;> rfl) trivial fun d hd _ ih=>?_
  have L1:=tDirT_le hs (d:=d) (by omega)
  by_cases hlt : d < 3
  ·simp (maxSteps:=999999) (disch:=omega) only [go_sem,hlt]
   refine W_forP 4 (fun s=>⟨[(0,.ptr p q tImage),(3,.str (bsL (A ++ tDirT m d ++ tRowT m d s))),(6,.int .i64 d),(7,.int .i64 s)],[],h⟩) (fun _=>True) (by rw [show tRowT m d 0 = [] from rfl,List.append_nil]; simp only [go_sem] <;> rfl) trivial fun s hs4 _ ih'=>?_
   have L2:=tRowT_le hs (d:=d) (s:=s) hlt (by omega)
   by_cases hlt' : s < 4
   ·have e : tRowT m d (s + 1) = tRowT m d s ++ entL d s (m.ent d s):=catN_succ _ _
    rw [entL_eq] at e
    obtain ⟨h1,h2,h3⟩:=slim_ent hs d s
    have l1:=num_len h1; have l2:=num_len h2; have hn1:=i64_nat (n:=d) (by omega); have l3:=num_len hn1; have hn2:=i64_nat (n:=s) (by omega); have l4:=num_len hn2
    have l5 : (m.ent d s).name.data.toList.length = (m.ent d s).name.size:=by simp
    by_cases hl : (m.ent d s).name = ⟨#[]⟩
    ·rw [if_neg (by rw [hl]; decide)] at e
     simp (maxSteps:=999999) (disch:=omega) only [go_sem,hlt,hlt',rd_ext hb,HP.rd_app hm,fg_ptr hb,leads_ptr hb,apart_ptr hb,hl]
     refine ih' _ hlt' trivial ?_
     simp only [go_sem,e,List.append_nil]
    ·rw [if_pos (fun h=>hl (by apply ByteArray.ext; exact Array.eq_empty_of_size_eq_zero h))] at e
     simp (maxSteps:=999999) (disch:=omega) only [go_sem,hlt,hlt',rd_ext hb,HP.rd_app hm,fg_ptr hb,leads_ptr hb,apart_ptr hb,hl]
     refine W_callp rfl ⟨rfl,rfl⟩ (by simp only [go_sem]; exact Rnum_ok hn1) ?_
     simp (maxSteps:=999999) (disch:=first | omega | (simp only [List.length_append,List.length_cons,List.length_nil]; omega)) only [go_sem,rd_ext hb,HP.rd_app hm,fg_ptr hb,leads_ptr hb,apart_ptr hb,k32,ke,kk,kn]
     refine W_callp rfl ⟨rfl,rfl⟩ (by simp only [go_sem]; exact Rnum_ok hn2) ?_
     simp (maxSteps:=999999) (disch:=first | omega | (simp only [List.length_append,List.length_cons,List.length_nil]; omega)) only [go_sem,rd_ext hb,HP.rd_app hm,fg_ptr hb,leads_ptr hb,apart_ptr hb,k32,ke,kk,kn]
     refine W_callp rfl ⟨rfl,rfl⟩ (by simp only [go_sem]; exact Rnum_ok h1) ?_
     simp (maxSteps:=999999) (disch:=first | omega | (simp only [List.length_append,List.length_cons,List.length_nil]; omega)) only [go_sem,rd_ext hb,HP.rd_app hm,fg_ptr hb,leads_ptr hb,apart_ptr hb,k32,ke,kk,kn]
     refine W_callp rfl ⟨rfl,rfl⟩ (by simp only [go_sem]; exact Rnum_ok h2) ?_
     simp (maxSteps:=999999) (disch:=first | omega | (simp only [List.length_append,List.length_cons,List.length_nil]; omega)) only [go_sem,rd_ext hb,HP.rd_app hm,fg_ptr hb,leads_ptr hb,apart_ptr hb,k32,k10,ke,kk,kn]
     refine ih' _ hlt' trivial ?_
     simp only [go_sem,e,if_true,List.append_assoc,List.cons_append,List.nil_append]
   ·obtain rfl : s = 4:=by omega
    simp (maxSteps:=999999) (disch:=omega) only [go_sem]
    refine ih _ hlt trivial ?_
    have e : tDirT m (d + 1) = tDirT m d ++ tRowT m d 4:=catN_succ _ _
    simp only [go_sem,e,List.append_assoc]
  ·obtain rfl : d = 3:=by omega
   simp (maxSteps:=999999) (disch:=omega) only [go_sem]
   generalize hB : tDirT m 3 = B at L1
   refine W_forP 9 (fun x=>⟨[(0,.ptr p q tImage),(3,.str (bsL (A ++ B ++ tDatT m x))),(9,.int .i64 x)],[],h⟩) (fun _=>True) (by rw [show tDatT m 0 = [] from rfl,List.append_nil]; simp only [go_sem] <;> rfl) trivial fun x hx _ ih=>?_
   have L3:=tDatT_le hs (x:=x) (by omega)
   by_cases hlt : x < 9
   ·have e : tDatT m (x + 1) = tDatT m x ++ datL x (m.dat x):=catN_succ _ _
    rw [datL_eq] at e
    obtain ⟨h1,h2⟩:=slim_dat hs x
    have l1:=num_len h1; have hn1:=i64_nat (n:=x) (by omega); have l3:=num_len hn1
    have l4:=showL_size (m.dat x).text.data.toList
    have l5 : (m.dat x).text.data.toList.length = (m.dat x).text.size:=by simp
    by_cases hl : (m.dat x).of = 0
    ·rw [if_neg (fun h=>h hl)] at e
     simp (maxSteps:=999999) (disch:=omega) only [go_sem,hlt,rd_ext hb,HP.rd_app hm,fg_ptr hb,leads_ptr hb,apart_ptr hb,hl]
     refine ih _ hlt trivial ?_
     simp only [go_sem,e,List.append_nil]
    ·rw [if_pos hl] at e
     simp (maxSteps:=999999) (disch:=omega) only [go_sem,hlt,rd_ext hb,HP.rd_app hm,fg_ptr hb,leads_ptr hb,apart_ptr hb,hl]
     refine W_callp rfl ⟨rfl,rfl⟩ (by simp only [go_sem]; exact Rnum_ok hn1) ?_
     simp (maxSteps:=999999) (disch:=first | omega | (simp only [List.length_append,List.length_cons,List.length_nil]; omega)) only [go_sem,rd_ext hb,HP.rd_app hm,fg_ptr hb,leads_ptr hb,apart_ptr hb,k32,kd,kk]
     refine W_callp rfl ⟨rfl,rfl⟩ (by simp only [go_sem]; exact Rnum_ok h1) ?_
     simp (maxSteps:=999999) (disch:=first | omega | (simp only [List.length_append,List.length_cons,List.length_nil]; omega)) only [go_sem,rd_ext hb,HP.rd_app hm,fg_ptr hb,leads_ptr hb,apart_ptr hb,k32,kd,kk]
     refine W_callp rfl ⟨rfl,rfl⟩ (by simp only [go_sem]; exact Shown_ok (by omega)) ?_
     simp (maxSteps:=999999) (disch:=first | omega | (simp only [List.length_append,List.length_cons,List.length_nil]; omega)) only [go_sem,rd_ext hb,HP.rd_app hm,fg_ptr hb,leads_ptr hb,apart_ptr hb,k32,k10,kd,kk]
     refine ih _ hlt trivial ?_
     simp only [go_sem,e,List.append_assoc,List.cons_append,List.nil_append]
   ·obtain rfl : x = 9:=by omega
    simp (maxSteps:=999999) (disch:=omega) only [go_sem]
    rw [text_cat,← hA,← hB,List.append_assoc]
    rfl
end
def Img.nums (m : Img) : Prop :=
 (∀ n : Fin 8,i64 m.inode[n].stamp ∧ i64 m.inode[n].links ∧ i64 m.inode[n].part[0] ∧ i64 m.inode[n].part[1]) ∧
 (∀ (d : Fin 3) (s : Fin 4),i64 m.dir[d][s].ino ∧ i64 m.dir[d][s].stamp) ∧ ∀ x : Fin 9,i64 m.data[x].of
theorem great_dat {m : Img} (h : great m = false) (x : Nat) : (m.dat x).text.size ≤ 3000:=by
 by_cases hc : x < 9
 ·have h1 : min (m.dat x).text.size 10000 ≤ greatDat m 9:=sumN_ge (f:=fun x=>min (m.dat x).text.size 10000) hc
  simp only [great,decide_eq_false_iff_not] at h
  omega
 ·simp only [Img.dat,hc,dif_neg,not_false_eq_true]; decide
theorem slim_of {m : Img} (hg : great m = false) (hn : m.nums) : m.slim:=by
 refine ⟨hn.1,fun d s=>⟨(hn.2.1 d s).1,(hn.2.1 d s).2,?_⟩,fun x=>⟨hn.2.2 x,?_⟩⟩
 ·have:=great_name hg d.val s.val
  rw [← ent_eq m d.isLt s.isLt] at this
  exact Nat.le_trans this (by omega)
 ·have:=great_dat hg x.val
  rw [← dat_eq m x.isLt] at this
  exact Nat.le_trans this (by omega)
section
variable {cx : Cx} {h : HP} {m : Img}
theorem TextDoes_ok {a b : List UInt8} (hl : ∀ n,h.next ≤ n → cx.prot.lets (.obj n) = true) (hi : m.nums) (ha : a.length < 4611686018427387904) (hb : b.length < 4611686018427387904) : Ok tblT cx Fn.w_TextDoes (St.enter [m.enc,.str (bsL a),.str (bsL b)] h) fun v h'=>v = .bool true ∧ Fr h h' []:=by
 have za:=bsL_size a
 have zb:=bsL_size b
 rw [Ok_eq]
 simp (maxSteps:=999999) (disch:=omega) only [go_sem]
 refine W_callF (S:=[]) (R:=fun v h'=>v = .bool true) rfl ⟨rfl,rfl⟩ (by simp only [go_sem]; exact begunF_ok (fun n hn=>hl n hn)) (fun v h1 e=>e) fun v h1 hF1 hv=>?_
 subst hv
 simp (maxSteps:=999999) (disch:=omega) only [go_sem]
 refine W_callp rfl ⟨rfl,rfl⟩ (by simp only [go_sem]; exact upT (upE (up Great_ok))) ?_
 cases hg : great m with
 | true =>
  simp (maxSteps:=999999) (disch:=omega) only [go_sem,hg]
  exact hF1
 | false =>
  have hs:=slim_of hg hi
  simp (maxSteps:=999999) (disch:=omega) only [go_sem,hg,za,zb]
  by_cases c0 : (2000 : Int) < a.length + b.length
  ·simp (maxSteps:=999999) (disch:=omega) only [go_sem,c0]
   exact hF1
  ·simp (maxSteps:=999999) (disch:=omega) only [go_sem,c0]
   refine W_callF (S:=[]) (R:=fun v h'=>v = meanA b) rfl ⟨rfl,rfl⟩ (by simp only [go_sem]; exact MeanL_ok (l:=b) (fun n hn=>hl n (Nat.le_trans hF1.next hn)) (by omega)) (fun v h1 e=>e) fun v h2 hF2 hv=>?_
   subst hv
   have hF2:=hF1.trans hF2
   have m1 : meanA b = .tup (.cons (.str (bsL ((meanL b).getD []))) (.cons (.bool (meanL b).isSome) .unit)):=rfl
   generalize (meanL b).getD [] = u1 at m1
   generalize (meanL b).isSome = u2 at m1
   simp (maxSteps:=999999) (disch:=omega) only [go_sem,m1]
   refine W_callp rfl ⟨rfl,rfl⟩ (by simp only [go_sem]; exact Meant_ok (l:=b) (by omega)) ?_
   simp (maxSteps:=999999) (disch:=omega) only [go_sem,m1]
   refine W_callp rfl ⟨rfl,rfl⟩ (by simp only [go_sem]; exact Print_ok (m:=m) (below_stk _ _) (by simp only [go_sem,HP.push_rd_own]) hs) ?_
   simp (maxSteps:=999999) (disch:=omega) only [go_sem]
   refine W_callp rfl ⟨rfl,rfl⟩ (by simp only [go_sem]; exact TextOf_ok (m:=m) (below_stk _ _) (by simp only [go_sem,HP.push_rd_own]) hs) ?_
   simp (maxSteps:=999999) (disch:=omega) only [go_sem]
   refine W_callF (S:=[]) (R:=fun v h'=>v = .str (bsL (showL a))) rfl ⟨rfl,rfl⟩ (by simp only [go_sem]; exact ShowL_ok (l:=a) (fun n hn=>hl n (Nat.le_trans hF2.next hn)) (by omega)) (fun v h1 e=>e) fun v h3 hF3 hv=>?_
   subst hv
   have hF3:=hF2.trans hF3
   simp (maxSteps:=999999) (disch:=omega) only [go_sem]
   refine W_callp rfl ⟨rfl,rfl⟩ (by simp only [go_sem]; exact Shown_ok (s:=bsL a) (by rw [za]; omega)) ?_
   have z : (bsL a).data.toList = a:=rfl
   simp (maxSteps:=999999) (disch:=omega) only [go_sem,z]
   exact hF3
end
open Go.RowKit
theorem run_ge {T : Nat → Option MFun} {n : Nat} {cx : Cx} {k : List Item} {s r : St} (h : run T n cx k s = some r) : ∀ m,run T (n + m) cx k s = some r
 | 0=>h
 | m + 1=>run_mono (run_ge h m)
theorem Itoa_run {T : Nat → Option MFun} {m : Nat} {cx : Cx} {a v : AV} {h : HP} {s2 : St} (hr : run T m cx [.code Fn.strconv_Itoa.body] (St.enter [a] h) = some s2) (hv : results cx s2 Fn.strconv_Itoa.res = some v) :
  ∃ n,a = .int .i64 n ∧ i64 n ∧ v = .str ⟨(numL n).toArray⟩ ∧ s2.own = [] ∧ s2.hp = h:=by
 have h1:=run_ge hr 6
 rw [show m + 6 = m + 1 + 1 + 1 + 1 + 1 + 1 from rfl] at h1
 simp only [run,next,St.wanted,opCmd,evOp,evK,Bool.false_and,Bool.false_eq_true,if_false,List.map_cons,List.map_nil,St.opd,Slots.get,St.enter,enterSlots,if_true] at h1
 cases hp : pItoa [a] with
 | none=>simp [hp] at h1
 | some y =>
  have hp':=hp
  unfold pItoa at hp
  split at hp
  ·rename_i n e
   simp only [List.cons.injEq,and_true] at e
   split at hp <;> simp only [Option.some.injEq,reduceCtorEq] at hp
   rename_i hn
   subst hp
   simp only [hp',AV.safe,if_true,applyEff,next,St.setd,Slots.set,St.kill,Option.some.injEq] at h1
   subst h1
   simp only [results,resOf,Slots.get,Slots.without] at hv
   refine ⟨n,e,hn,?_,rfl,rfl⟩
   simpa [AV.safe,Slots.get,Slots.without,List.filter,has] using hv.symm
  ·simp at hp
theorem run_s {T : Nat → Option MFun} {n : Nat} {cx : Cx} {k : List Item} {s : St} : run T (n + 1) cx k s = match next T cx k s with
  | .done s=>some s
  | .fail=>none
  | .go k s=>run T n cx k s
  | .call cx' hide fn e d k s=>match run T n cx' [.code fn.body] e with
   | some s'=>match back cx cx' hide fn d s s' with
    | some s=>run T n cx k s
    | none=>none
   | none=>none:=rfl
theorem next_prim {T : Nat → Option MFun} {cx : Cx} {d : Nat} {f : List AV → Option AV} {xs : List Opd} {kill : List Nat} {r : List MOp} {k : List Item} {s : St} {v : AV} (h : f (xs.map s.opd) = some v) (hs : v.safe = true) :
  next T cx (.ops (⟨some d,.prim f xs,none⟩ :: r) kill :: k) s = .go (.ops r kill :: k) (s.setd (some d) v):=by
 simp only [next,St.wanted,opCmd,evOp,evK,h,hs,if_true,applyEff]
theorem next_prim_none {T : Nat → Option MFun} {cx : Cx} {d : Nat} {f : List AV → Option AV} {xs : List Opd} {kill : List Nat} {r : List MOp} {k : List Item} {s : St} (h : f (xs.map s.opd) = none) :
  next T cx (.ops (⟨some d,.prim f xs,none⟩ :: r) kill :: k) s = .fail:=by
 simp only [next,St.wanted,opCmd,evOp,evK,h]
theorem Pu_run {T : Nat → Option MFun} {m : Nat} {cx : Cx} {a b c v : AV} {h : HP} {s2 : St} (hr : run T m cx [.code Fn.strconv_ParseUint.body] (St.enter [a,b,c] h) = some s2) (hv : results cx s2 Fn.strconv_ParseUint.res = some v) :
  ∃ t : ByteArray,a = .str t ∧ b = .int .i64 16 ∧ c = .int .i64 8 ∧ t.size = 2 ∧ v = .tup (.cons (.int .u64 ((hex2 t).getD 0)) (.cons (.iface (hex2 t).isNone) .unit)) ∧ s2.own = [] ∧ s2.hp = h:=by
 have h1 : run T (m + 5) cx [.ops [⟨some 3,.prim pPu [(.s 0),(.s 1),(.s 2)],none⟩,⟨some 4,.prim pPe [(.s 0),(.s 1),(.s 2)],none⟩] [],.code .ret] (St.enter [a,b,c] h) = some s2:=run_ge hr 7
 rw [run_s] at h1
 cases hp : pPu [a,b,c] with
 | none=>rw [next_prim_none hp] at h1; simp at h1
 | some y =>
  have hp':=hp
  unfold pPu at hp
  split at hp
  ·rename_i t e
   simp only [List.cons.injEq,and_true] at e
   obtain ⟨rfl,rfl,rfl⟩:=e
   split at hp <;> simp only [Option.some.injEq,reduceCtorEq] at hp
   rename_i ht
   subst hp
   rw [next_prim hp' rfl] at h1
   have h2 : run T (m + 4) cx [.ops [⟨some 4,.prim pPe [(.s 0),(.s 1),(.s 2)],none⟩] [],.code .ret] ((St.enter [.str t,.int .i64 16,.int .i64 8] h).setd (some 3) (.int .u64 ((hex2 t).getD 0))) = some s2:=h1
   have hq : pPe [.str t,.int .i64 16,.int .i64 8] = some (.iface (hex2 t).isNone):=by simp only [pPe]; rw [if_pos ht]
   rw [run_s,next_prim hq rfl] at h2
   have h3 : some _ = some s2:=h2
   have h4:=Option.some.inj h3
   subst h4
   exact ⟨t,rfl,rfl,rfl,ht,(Option.some.inj hv).symm,rfl,rfl⟩
  ·simp at hp
theorem next_load {T : Nat → Option MFun} {cx : Cx} {d : Nat} {t : Ty} {x : Opd} {kill : List Nat} {r : List MOp} {k : List Item} {s : St} :
  next T cx (.ops (⟨some d,.load false none t x,none⟩ :: r) kill :: k) s = match evOp cx (some d) (.load false none t x) s with
   | some (v,s')=>.go (.ops r kill :: k) (s'.setd (some d) v)
   | none=>.fail:=rfl
theorem ev_load {cx : Cx} {d : Option Nat} {t : Ty} {x : Opd} {s s' : St} {v : AV} (h : evOp cx d (.load false none t x) s = some (v,s')) : s' = s ∧ ∃ i p,s.opd x = .ptr i p t ∧ ((s.look cx i).bind fun b=>b.val.at p) = some v ∧ t.fits v = true:=by
 unfold evOp at h
 simp only [evK] at h
 split at h
 ·rename_i e he
  split at he
  ·rename_i i p t' hx
   split at he
   ·rename_i hc
    split at he
    ·rename_i u hu
     split at he
     ·rename_i hf
      simp only [Option.some.injEq] at he
      subst he
      simp only [applyEff,Option.some.injEq,Prod.mk.injEq] at h
      obtain ⟨rfl,rfl⟩:=h
      exact ⟨rfl,i,p,by rw [hx,hc.1],hu,hf⟩
     ·simp at he
    ·simp at he
   ·simp at he
  ·simp at he
 ·simp at h
theorem Print_run {T : Nat → Option MFun} {m : Nat} {cx : Cx} {a v : AV} {h : HP} {s2 : St} (hr : run T m cx [.code Fn.text_Print.body] (St.enter [a] h) = some s2) (hv : results cx s2 Fn.text_Print.res = some v) :
  ∃ i p img b,a = .ptr i p tImage ∧ h.look i = some b ∧ b.val.at p = some img.enc ∧ img.slim ∧ v = .str ⟨(textL img).toArray⟩ ∧ s2.own = [] ∧ s2.hp = h:=by
 have h1 : run T (m + 5) cx [.ops [⟨some 1,.load false none tImage (.s 0),none⟩,⟨some 2,.prim pPrint [(.s 1)],none⟩] [],.code .ret] (St.enter [a] h) = some s2:=run_ge hr 7
 rw [run_s,next_load] at h1
 cases he : evOp cx (some 1) (.load false none tImage (.s 0)) (St.enter [a] h) with
 | none=>rw [he] at h1; simp at h1
 | some q =>
  obtain ⟨u,s'⟩:=q
  rw [he] at h1
  obtain ⟨rfl,i,p,hx,hu,hf⟩:=ev_load he
  have h2 : run T (m + 4) cx [.ops [⟨some 2,.prim pPrint [(.s 1)],none⟩] [],.code .ret] ((St.enter [a] h).setd (some 1) u) = some s2:=h1
  rw [run_s] at h2
  cases hp : pPrint [u] with
  | none=>rw [next_prim_none hp] at h2; simp at h2
  | some y =>
   have hp':=hp
   unfold pPrint at hp
   split at hp
   ·rename_i w e
    simp only [List.cons.injEq,and_true] at e
    subst e
    split at hp
    ·rename_i hm
     simp only [Option.some.injEq] at hp
     subst hp
     rw [next_prim hp' rfl] at h2
     have h3 : some _ = some s2:=h2
     have h4:=Option.some.inj h3
     subst h4
     obtain ⟨b,hb1,hb2⟩:=Option.bind_eq_some_iff.1 hu
     refine ⟨i,p,hm.choose,b,hx,?_,hb2.trans (congrArg some hm.choose_spec.1),hm.choose_spec.2,(Option.some.inj hv).symm,rfl,rfl⟩
     unfold St.look at hb1
     split at hb1
     ·simp [St.enter,Own.get] at hb1
     ·exact hb1
    ·simp at hp
   ·rename_i hne; exact (hne u rfl).elim
open Go.RowKit Go.ChangeShapes
theorem has_i64 {n : Int} (h : IntKind.i64.has n) : i64 n:=by
 unfold i64
 have h1 : IntKind.i64.min = -9223372036854775808:=by decide
 have h2 : IntKind.i64.max = 9223372036854775807:=by decide
 obtain ⟨a,b⟩:=h
 rw [h1] at a; rw [h2] at b
 exact ⟨a,b⟩
theorem img_nums {m : Img} (h : m.enc.ranged) : m.nums:=by
 obtain ⟨h1,h2,h3,_⟩:=h
 refine ⟨fun n=>?_,fun d s=>?_,fun x=>?_⟩
 ·obtain ⟨_,a,b,c,_⟩:=h1 n
  exact ⟨has_i64 a,has_i64 b,has_i64 (c 0),has_i64 (c 1)⟩
 ·obtain ⟨_,a,b,_⟩:=h2 d s
  exact ⟨has_i64 a,has_i64 b⟩
 ·obtain ⟨a,_⟩:=h3 x
  exact has_i64 a
section
variable {P : Program} {φ : Nat → Option FuncId} {β : Beta} {W : World} {r : Reach} {b : Nat} {x : Value} {U : TypeId}
theorem given_imgR {ts : List TypeId} (hts : P.cellTypes P.depth U = some ts) (hk : (ts.map fun u=>kindOf (P.underlying u)) = tImage.kinds.map some) (hu : ∃ fs,P.underlying U = some (.struct fs)) (hc : P.cellsOf U = tImage.kinds.length)
  (h : Value.okWide P W r b U x) : ∃ m : Img,m.nums ∧ VR φ β m.enc x:=by
 obtain ⟨v,h1,h2,h3⟩:=given_agg (φ:=φ) (β:=β) hts hk rfl (.inl hu) hc h
 obtain ⟨n,rfl⟩:=dec_img h1
 exact ⟨n,img_nums h2,h3⟩
end
open Go.RowKit
section
variable {φ : Nat → Option FuncId} {β : Beta} {P : Program} {O : Nat → Prop} {w w' : World} {look : Id → Option Blk}
theorem HR_stays (h : HR φ β O look w) (hb : Below w.heap.size w w') : HR φ β O look w' :=
 ⟨fun i b hl=>by
  obtain ⟨pl,cs,T,fr,hB⟩:=h.live i b hl
  exact ⟨pl,cs,T,fr,hB.place,hB.ty,hB.fits,(hb.block pl.r (Array.getElem?_eq_some_iff.1 hB.heap).1).trans hB.heap,hB.room,hB.size,hB.cells,hB.own⟩,h.apart⟩
theorem ext_back [Fix] {cx : Cx} {h : HP} {s2 : St} (hm : HR φ β O h.look w) (hdom : ∀ i pl,β i = some pl → i.under cx.lvl h.next) (htop : ∀ l,cx.lvl ≤ l → h.stk l = []) (hown : s2.own = []) (hhp : s2.hp = h) (hb : Below w.heap.size w w') :
  After φ O β cx.lvl h.next w (s2.look cx) s2.hp.next s2.hp.stk β w':=by
 subst hhp
 refine ⟨HR_mono (HR_stays hm hb) fun i b hl=>?_,⟨hb.os,hb.tape,hb.output,hb.size,fun r hr _=>hb.block r hr⟩,Ext.refl,Nat.le_refl _,fun i pl hp=>?_,htop⟩
 ·unfold St.look at hl
  split at hl
  ·rw [hown] at hl; simp [Own.get] at hl
  ·exact hl
 ·have:=hdom i pl hp
  cases i <;> simp only [Id.under] at this ⊢ <;> omega
theorem ItoaX [Fix] {T : Nat → Option MFun} {F : FuncId} (hf : ∃ f c, P.funcs[F]? = some f ∧ f.body = some c ∧ (f.name == "runtime.NumGoroutine") = false)
  (hraw : ∀ O w,Fix.I O w → ∀ n,i64 n → Calls P F #[.int .i64 n] w fun e w'=>e = .returned (.string ⟨(numL n).toArray⟩) ∧ Below w.heap.size w w') : ExtOk P T φ F Fn.strconv_Itoa:=by
 refine ⟨hf,fun m cx args h s2 v β O rargs w hr hv hlen ha hm hdom htop hfresh hinv=>?_⟩
 match args,hlen with
 | [a],_ =>
  obtain ⟨n,rfl,hn,rfl,ho,hh⟩:=Itoa_run hr hv
  obtain ⟨x,rfl⟩ : ∃ x,rargs = [x]:=by
   have:=ha.1
   match rargs,this with
   | [x],_=>exact ⟨x,rfl⟩
  have hx:=LR_int (ha.2 0 _ _ rfl rfl)
  subst hx
  refine (hraw O w hinv n hn).mono ?_
  rintro e w' ⟨rfl,hb⟩
  exact ⟨_,β,rfl,VR_of_VR1 (by simp [VR1,AV.isAgg,LR,AV.rel]),by simp [AV.resOk,AV.safe],ext_back hm hdom htop ho hh hb⟩
theorem PuX [Fix] {T : Nat → Option MFun} {F : FuncId} (hf : ∃ f c, P.funcs[F]? = some f ∧ f.body = some c ∧ (f.name == "runtime.NumGoroutine") = false)
  (hraw : ∀ O w,Fix.I O w → ∀ t : ByteArray,t.size = 2 → Calls P F #[.string t,.int .i64 16,.int .i64 8] w fun e w' =>
   (match hex2 t with
    | some n=>e = .returned (.tuple #[.int .u64 n,.nilIface])
    | none=>∃ u x,e = .returned (.tuple #[.int .u64 0,.iface u x])) ∧ Below w.heap.size w w') : ExtOk P T φ F Fn.strconv_ParseUint:=by
 refine ⟨hf,fun m cx args h s2 v β O rargs w hr hv hlen ha hm hdom htop hfresh hinv=>?_⟩
 match args,hlen with
 | [a,b,c],_ =>
  obtain ⟨t,rfl,rfl,rfl,ht,rfl,ho,hh⟩:=Pu_run hr hv
  obtain ⟨x,y,z,rfl⟩ : ∃ x y z,rargs = [x,y,z]:=by
   have:=ha.1
   match rargs,this with
   | [x,y,z],_=>exact ⟨x,y,z,rfl⟩
  have hx:=LR_str (ha.2 0 _ _ rfl rfl)
  have hy:=LR_int (ha.2 1 _ _ rfl rfl)
  have hz:=LR_int (ha.2 2 _ _ rfl rfl)
  subst hx hy hz
  refine (hraw O w hinv t ht).mono ?_
  rintro e w' ⟨he,hb⟩
  cases hq : hex2 t with
  | some n =>
   rw [hq] at he
   simp only at he
   subst he
   exact ⟨_,β,rfl,⟨_,rfl,rfl,by simp [VR1,AV.isAgg,LR,AV.rel],rfl,by simp [VR1,AV.isAgg,LR,AV.rel],trivial⟩,.inr ⟨_,rfl⟩,ext_back hm hdom htop ho hh hb⟩
  | none =>
   rw [hq] at he
   obtain ⟨u,x,rfl⟩:=he
   exact ⟨_,β,rfl,⟨_,rfl,rfl,by simp [VR1,AV.isAgg,LR,AV.rel],rfl,by simp [VR1,AV.isAgg,LR,AV.rel],trivial⟩,.inr ⟨_,rfl⟩,ext_back hm hdom htop ho hh hb⟩
def leafV : AV → Value
 | .bool b=>.bool b
 | .int k n=>.int k n
 | .str s=>.string s
 | _=>undef
def AV.plainLeaf : AV → Bool
 | .bool _=>true
 | .int ..=>true
 | .str _=>true
 | _=>false
theorem LR_leafV {c : AV} {x : Value} (hc : c.plainLeaf = true) (h : LR φ β c x) : x = leafV c:=by
 cases c <;> simp [AV.plainLeaf] at hc <;> exact h
def inoCs (i : Ino) : List Value:=[.bool i.live,.int .i64 i.stamp,.int .i64 i.links,.int .i64 (i.prt 0),.int .i64 (i.prt 1)]
def entCs (e : Ent) : List Value:=[.string e.name,.int .i64 e.ino,.int .i64 e.stamp]
def datCs (y : Dat) : List Value:=[.int .i64 y.of,.string y.text]
def inosCs (m : Img) : List Value:=(List.range 8).flatMap fun n=>inoCs (m.ino n)
def rowCs (m : Img) (d : Nat) : List Value:=(List.range 4).flatMap fun s=>entCs (m.ent d s)
def datsCs (m : Img) : List Value:=(List.range 9).flatMap fun x=>datCs (m.dat x)
theorem fin_range {α : Type} {n : Nat} {g : Fin n → List α} {f : Nat → List α} (h : ∀ i : Fin n,g i = f i.val) : (List.finRange n).flatMap g = (List.range n).flatMap f:=by
 have : g = fun i=>f i.val:=funext h
 have e : (List.finRange n).map Fin.val = List.range n:=List.ext_getElem (by simp) fun i h1 h2=>by simp
 rw [this,← e,List.flatMap_map]
theorem img_flat (m : Img) : m.enc.flat.map leafV = inosCs m ++ ((List.range 3).flatMap (rowCs m) ++ datsCs m):=by
 simp only [Img.enc,AV.flat,encV,List.append_nil,List.map_append,List.map_flatMap]
 rw [fin_range (f:=fun n=>inoCs (m.ino n)),fin_range (f:=rowCs m),fin_range (f:=fun x=>datCs (m.dat x))]
 ·rfl
 ·intro x
  show List.map leafV (Dat.enc m.data[x.val]).flat = _
  rw [dat_eq]; rfl
 ·intro d
  exact fin_range fun s=>by
   show List.map leafV (Ent.enc (m.dir[d.val])[s.val]).flat = _
   rw [ent_eq]; rfl
 ·intro n
  show List.map leafV (Ino.enc m.inode[n.val]).flat = _
  rw [ino_eq]; rfl
theorem img_plain (m : Img) : ∀ c ∈ m.enc.flat,c.plainLeaf = true:=by
 simp only [Img.enc,AV.flat,encV,List.append_nil,List.mem_append,List.mem_flatMap]
 rintro c (⟨n,_,hc⟩ | ⟨d,_,s,_,hc⟩ | ⟨x,_,hc⟩)
 ·simp only [Ino.enc,AV.flat,encV,List.append_nil,List.mem_append,List.mem_flatMap,List.mem_singleton] at hc
  rcases hc with rfl | rfl | rfl | ⟨_,_,rfl⟩ <;> rfl
 ·simp only [Ent.enc,AV.flat,List.append_nil,List.mem_append,List.mem_singleton] at hc
  rcases hc with rfl | rfl | rfl <;> rfl
 ·simp only [Dat.enc,AV.flat,List.append_nil,List.mem_append,List.mem_singleton] at hc
  rcases hc with rfl | rfl <;> rfl
theorem range_left {r o : Nat} {a b : List Value} (h : w.rangeAt r o (a ++ b)) : w.rangeAt r o a:=fun j v hv=>h j v (by
 have hj : j < a.length:=by
  rcases Nat.lt_or_ge j a.length with h | h
  ·exact h
  ·rw [List.getElem?_eq_none h] at hv; simp at hv
 rw [List.getElem?_append_left hj]; exact hv)
theorem range_right {r o : Nat} {a b : List Value} (h : w.rangeAt r o (a ++ b)) : w.rangeAt r (o + a.length) b:=fun j v hv=>by
 have:=h (a.length + j) v (by rw [List.getElem?_append_right (by omega),Nat.add_sub_cancel_left]; exact hv)
 rw [← Nat.add_assoc] at this
 exact this
theorem range_rows {r o : Nat} {f : Nat → List Value} {c n : Nat} (hf : ∀ i,(f i).length = c) (h : w.rangeAt r o ((List.range n).flatMap f)) (d : Nat) (hd : d < n) : w.rangeAt r (o + d * c) (f d):=fun j v hv=>by
 have hj : j < c:=by
  rcases Nat.lt_or_ge j c with h | h
  ·exact h
  ·rw [List.getElem?_eq_none (by rw [hf]; exact h)] at hv; simp at hv
 have e:=getElem?_flatMap_const (List.range n) f c (fun x _=>hf x) d (by simpa using hd) j hj
 rw [List.getElem_range] at e
 have:=h (d * c + j) v (by rw [e]; exact hv)
 rw [← Nat.add_assoc] at this
 exact this
theorem PrintX [Fix] {T : Nat → Option MFun} {F : FuncId} (hf : ∃ f c, P.funcs[F]? = some f ∧ f.body = some c ∧ (f.name == "runtime.NumGoroutine") = false)
  (hraw : ∀ O w,Fix.I O w → ∀ (m : Img) (r off : Nat),m.slim → r < w.heap.size → w.rangeAt r off (inosCs m) → (∀ d,d < 3 → w.rangeAt r (off + 40 + d * 12) (rowCs m d)) → w.rangeAt r (off + 76) (datsCs m) →
   Calls P F #[.pointer (some ⟨r,off,none⟩)] w fun e w'=>e = .returned (.string ⟨(textL m).toArray⟩) ∧ Below w.heap.size w w') : ExtOk P T φ F Fn.text_Print:=by
 refine ⟨hf,fun m cx args h s2 v β O rargs w hr hv hlen ha hm hdom htop hfresh hinv=>?_⟩
 match args,hlen with
 | [a],_ =>
  obtain ⟨i,p,img,b,rfl,hl,hat,hs,rfl,ho,hh⟩:=Print_run hr hv
  obtain ⟨x,rfl⟩ : ∃ x,rargs = [x]:=by
   have:=ha.1
   match rargs,this with
   | [x],_=>exact ⟨x,rfl⟩
  have hx:=ha.2 0 _ _ rfl rfl
  simp only [VR,VR1,AV.isAgg,Bool.false_eq_true,if_false,LR,AV.rel] at hx
  obtain ⟨pl,o,hpl,hfd,rfl⟩:=hx
  obtain ⟨pl',cs,TT,fr,hB⟩:=hm.live i b hl
  have e:=hB.place.symm.trans hpl
  simp only [Option.some.injEq] at e
  subst e
  rw [hB.ty] at hfd
  obtain ⟨hfit,hseg⟩:=Ty.fits_at hB.fits hfd hat
  have hbig : w.rangeAt pl'.r (pl'.base + o) (img.enc.flat.map leafV):=by
   intro j v hv
   rw [List.getElem?_map,Option.map_eq_some_iff] at hv
   obtain ⟨c,hc,rfl⟩:=hv
   have hjs : j < tImage.size:=by
    rcases Nat.lt_or_ge j tImage.size with h | h
    ·exact h
    ·rw [List.getElem?_eq_none (by rw [Ty.fits_length hfit]; exact h)] at hc; simp at hc
   obtain ⟨x,hx,hLR⟩:=hB.cells (o + j) c (by rw [hseg j hjs]; exact hc)
   rw [LR_leafV (img_plain img c (List.mem_of_getElem? hc)) hLR] at hx
   simp only [World.cell?,hB.heap]
   rw [Nat.add_assoc]
   simpa using hx
  rw [img_flat] at hbig
  have h1:=range_left hbig
  have h2:=range_right hbig
  rw [show (inosCs img).length = 40 from rfl] at h2
  have h3:=range_rows (f:=rowCs img) (c:=12) (fun _=>rfl) (range_left h2)
  have h4:=range_right h2
  rw [show ((List.range 3).flatMap (rowCs img)).length = 36 from rfl] at h4
  refine (hraw O w hinv img pl'.r (pl'.base + o) hs (Array.getElem?_eq_some_iff.1 hB.heap).1 h1 h3 h4).mono ?_
  rintro e w' ⟨rfl,hb⟩
  exact ⟨_,β,rfl,VR_of_VR1 (by simp [VR1,AV.isAgg,LR,AV.rel]),.inl rfl,ext_back hm hdom htop ho hh hb⟩
end
end Go.Mini
