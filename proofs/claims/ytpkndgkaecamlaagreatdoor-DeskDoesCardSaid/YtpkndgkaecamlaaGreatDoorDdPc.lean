/- A part of the proof: what Dd computes, step by step. -/
import Derived.Test.YtpkndgkaecamlaaGreatDoorDdPb
import Derived.Attr

set_option linter.unusedSimpArgs false
set_option linter.unusedVariables false
set_option maxHeartbeats 4000000
set_option maxRecDepth 100000
set_option linter.unusedSectionVars false
set_option linter.unnecessarySimpa false
namespace Go.Mini
def tI:Ty:=(.leaf (.int .i64))
def tB:Ty:=(.leaf (.bool))
def tS:Ty:=(.leaf (.str))
def tP:Ty:=(.leaf (.ptr))
def tSl:Ty:=(.leaf (.slice))
def tU8:Ty:=(.leaf (.int .u8))
def cH:Ty:=(.arr 2 tI)
def tK3:Ty:=(.arr 3 tI)
def cf:Ty:=(.cons tI (.cons tS .unit))
def tFiles:Ty:=(.cons tP (.cons tI .unit))
def dD:Ty:=(.arr 9 cf)
def aq:Ty:=(.cons tS (.cons tI (.cons tI .unit)))
def cS:Ty:=(.cons tI (.cons tI (.cons tI .unit)))
def dC:Ty:=(.arr 4 aq)
def cI:Ty:=(.arr 3 dC)
def aj:Ty:=(.cons tB (.cons tI (.cons tI (.cons cH .unit))))
def aK:Ty:=(.arr 8 aj)
def tLife:Ty:=(.cons tP (.cons cS (.cons tI .unit)))
def aD:Ty:=(.cons tI (.cons tI (.cons tI (.cons tI (.cons tS (.cons tS (.cons tS .unit)))))))
def ac:Ty:=(.cons aK (.cons cI (.cons dD .unit)))
def tCache:Ty:=(.cons ac (.cons ac .unit))
def tBed:Ty:=(.cons ac (.cons ac (.cons tI (.cons tI (.cons tI (.cons tI (.cons tI .unit)))))))
namespace Fn
abbrev bL.r0:=[oC 6 0]
abbrev bL.r1:=[oC 7 0]
abbrev bL.r2:=[oC 12 0]
abbrev bL.r3:=[oI 13 .lss 12 3]
abbrev bL.r4:=[oM 14 12,oM 8 14]
abbrev bL.r5:=[oC 15 0]
abbrev bL.r6:=[oI 16 .lss 15 4]
abbrev bL.r7:=[oM 17 15,oM 9 17]
abbrev bL.r8:=[oM 18 0,oM 19 8,oM 20 9,oK 21 18,oE 22 ac 1 cI 21,oJ 23 3 dC 22 19,oJ 24 4 aq 23 20,oL 25 aq 24,oM 26 1,oM 27 8,oM 28 9,oK 29 26,oE 30 ac 1 cI 29,oJ 31 3 dC 30 27,oJ 32 4 aq 31 28,oN 33 (.load false (some 1) aq (.s 32)),pN 10 aq,pN 11 aq,oU (.store aq [1] (.s 10) (.s 25)),oS aq 11 33]
abbrev bL.r9:=[oE 34 aq 0 tS 10,oL 35 tS 34,pV 36 .neq 35 (qS #[]),oM 37 36,pE 38 aq 1 tI 10 37,pL 39 tI 38 37,oT 40 2 37,pB 41 .eql 39 40 37,oQ 42 37 41,oM 43 42,zE 44 aq 0 tS 11 43,zL 45 tS 44 43,oH 46 (.bin .neq (.s 45) (qS #[])) 43,oF 47 46 43,pE 48 aq 1 tI 11 47,pL 49 tI 48 47,oT 50 2 47,pB 51 .eql 49 50 47,oH 52 (.pick (.s 47) (.s 51) qF) 43,oO 53 43 52]
abbrev bL.r10:=[oM 54 7,oI 55 .add 54 1,oM 7 55]
abbrev bL.r11:=[oI 56 .add 15 1,oM 15 56]
abbrev bL.r12:=[oI 57 .add 12 1,oM 12 57]
abbrev bL.r13:=[oM 58 7,oM 6 58]
abbrev bL.body:=gS (gR bL.r0 [6]) (gS (gR bL.r1 []) (gS (gS (gR bL.r2 []) (.block 0 (.loop [0,1,2,7,12] [] (gS (gR bL.r3 []) (gS (gC 13 .skip (.exit 0)) (gS (.block 1 (gS (gR bL.r4 [14]) (gS (gR bL.r5 []) (.block 2 (.loop [0,1,2,7,8,12,15] [] (gS (gR bL.r6 []) (gS (gC 16 .skip (.exit 2)) (gS (.block 3 (gS (gR bL.r7 [17]) (gS (gT bL.r8 [9,18,19,20,21,22,23,24,25,26,27,28,29,30,31,32,33]) (gS (gR bL.r9 [10,11,34,35,36,37,38,39,40,41,42,43,44,45,46,47,48,49,50,51,52]) (gC 53 (gR bL.r10 [54,55]) .skip))))) (gR bL.r11 [56]))))))))) (gR bL.r12 [57]))))))) (gS (gR bL.r13 [7,58]) .ret)))
abbrev bL:=gF 3 [.tmp 6] bL.body
abbrev dY.r0:=[oC 6 0]
abbrev dY.r1:=[oC 7 0]
abbrev dY.r2:=[oC 8 0]
abbrev dY.r3:=[oM 10 8,oI 11 .lss 10 3]
abbrev dY.r4:=[oM 12 8,oI 13 .add 12 1,oM 8 13]
abbrev dY.r5:=[oC 9 0]
abbrev dY.r6:=[oM 14 9,oI 15 .lss 14 4]
abbrev dY.r7:=[oM 16 9,oI 17 .add 16 1,oM 9 17]
abbrev dY.r8:=[oM 18 0,oM 19 8,oM 20 9,oM 21 2,oA 22 31 [(.s 18),(.s 19),(.s 20),(.s 21)],oM 23 22,oF 24 1 23,oF 25 8 23,oF 26 9 23,oF 27 2 23,oH 28 (.call false [] 31 [(.s 24),(.s 25),(.s 26),(.s 27)]) 23,oO 29 23 28]
abbrev dY.r9:=[oM 30 7,oI 31 .add 30 1,oM 7 31]
abbrev dY.r10:=[oM 32 7,oM 6 32]
abbrev dY.body:=gS (gR dY.r0 [6]) (gS (gR dY.r1 []) (gS (gS (gR dY.r2 []) (.block 0 (.loop [0,1,2,7,8] [] (gS (gS (gR dY.r3 [10]) (gC 11 .skip (.exit 0))) (gS (.block 1 (gS (gR dY.r5 []) (.block 2 (.loop [0,1,2,7,8,9] [] (gS (gS (gR dY.r6 [14]) (gC 15 .skip (.exit 2))) (gS (.block 3 (gS (gR dY.r8 [18,19,20,21,22,23,24,25,26,27,28]) (gC 29 (gR dY.r9 [30,31]) .skip))) (gR dY.r7 [16,17]))))))) (gR dY.r4 [12,13])))))) (gS (gR dY.r10 [7,32]) .ret)))
abbrev dY:=gF 3 [.tmp 6] dY.body
abbrev bC.r0:=[pN 6 aj]
abbrev bC.r1:=[oM 12 0,oM 13 2,oK 14 12,oE 15 ac 0 aK 14,oJ 16 8 aj 15 13,oL 17 aj 16,oM 18 1,oM 19 2,oK 20 18,oE 21 ac 0 aK 20,oJ 22 8 aj 21 19,oN 23 (.load false (some 1) aj (.s 22)),pN 7 aj,pN 8 aj,oU (.store aj [1] (.s 7) (.s 17)),oS aj 8 23]
abbrev bC.r2:=[oM 24 0,oM 25 1,oM 26 2,oA 27 0 [(.s 24),(.s 25),(.s 26)],oM 9 27]
abbrev bC.r3:=[oE 28 aj 0 tB 7,oL 29 tB 28,pU 30 29]
abbrev bC.r4:=[oE 31 aj 0 tB 8,oL 32 tB 31,oM 33 32,oT 34 9 33,oG 35 (.bin .gtr (.s 34) (qI 0)) 33,oQ 36 33 35]
abbrev bC.r5:=[oM 37 9,oE 38 aj 2 tI 8,oS tI 38 37]
abbrev bC.r6:=[oL 39 aj 8,oS aj 6 39]
abbrev bC.r7:=[oA 40 33 [],oS aj 6 40]
abbrev bC.r8:=[oL 41 aj 7,pN 10 aj,oS aj 10 41]
abbrev bC.r9:=[oM 42 9,oE 43 aj 2 tI 10,oS tI 43 42]
abbrev bC.r10:=[oC 44 0]
abbrev bC.r11:=[oI 45 .lss 44 2]
abbrev bC.r12:=[oM 46 44,oM 11 46]
abbrev bC.r13:=[oM 47 11,oM 48 0,oM 49 1,oM 50 2,oM 51 11,oA 52 32 [(.s 48),(.s 49),(.s 50),(.s 51)],oE 53 aj 3 cH 10,oJ 54 2 tI 53 47,oS tI 54 52]
abbrev bC.r14:=[oI 55 .add 44 1,oM 44 55]
abbrev bC.r15:=[oL 56 aj 10,oS aj 6 56]
abbrev bC.body:=gS (gR bC.r0 []) (gS (gT bC.r1 [12,13,14,15,16,17,18,19,20,21,22,23]) (gS (gR bC.r2 [24,25,26,27]) (gS (gS (gR bC.r3 [28,29]) (gC 30 (gS (gS (gR bC.r4 [31,32,33,34,35]) (gC 36 (gS (gR bC.r5 [9,37,38]) (gS (gR bC.r6 [8,39]) .ret)) .skip)) (gS (gR bC.r7 [40]) .ret)) .skip)) (gS (gR bC.r8 [7,41]) (gS (gR bC.r9 [9,42,43]) (gS (gS (gR bC.r10 []) (.block 0 (.loop [0,1,2,6,10,44] [6,10] (gS (gR bC.r11 []) (gS (gC 45 .skip (.exit 0)) (gS (.block 1 (gS (gR bC.r12 [46]) (gR bC.r13 [11,47,48,49,50,51,52,53,54]))) (gR bC.r14 [55]))))))) (gS (gR bC.r15 [10,56]) .ret)))))))
abbrev bC:=gF 3 [.cell 6 aj] bC.body
abbrev bq.r0:=[pN 6 aj]
abbrev bq.r1:=[oM 10 0,oM 11 2,oK 12 10,oE 13 ac 0 aK 12,oJ 14 8 aj 13 11,oL 15 aj 14,pN 7 aj,oS aj 7 15]
abbrev bq.r2:=[oE 16 aj 0 tB 7,oL 17 tB 16,pU 18 17]
abbrev bq.r3:=[oM 19 1,oM 20 2,oK 21 19,oE 22 ac 0 aK 21,oJ 23 8 aj 22 20,oE 24 aj 0 tB 23,oL 25 tB 24,pU 26 25,oM 27 26,oF 28 0 27,oF 29 1 27,oF 30 2 27,oH 31 (.call false [] 1 [(.s 28),(.s 29),(.s 30)]) 27,zB 32 .eql 31 0 27,oO 33 27 32]
abbrev bq.r4:=[oA 34 13 [],oS aj 6 34]
abbrev bq.r5:=[oM 35 1,oM 36 2,oK 37 35,oE 38 ac 0 aK 37,oJ 39 8 aj 38 36,oL 40 aj 39,oS aj 7 40]
abbrev bq.r6:=[oM 41 0,oM 42 1,oM 43 2,oA 44 1 [(.s 41),(.s 42),(.s 43)],oE 45 aj 2 tI 7,oS tI 45 44]
abbrev bq.r7:=[oL 46 aj 7,oS aj 6 46]
abbrev bq.r8:=[oM 47 0,oM 48 1,oM 49 2,oA 50 1 [(.s 47),(.s 48),(.s 49)],oE 51 aj 2 tI 7,oS tI 51 50]
abbrev bq.r9:=[oC 8 0]
abbrev bq.r10:=[oM 52 8,oI 53 .lss 52 2]
abbrev bq.r11:=[oM 54 8,oI 55 .add 54 1,oM 8 55]
abbrev bq.r12:=[oM 56 8,oE 57 aj 3 cH 7,oJ 58 2 tI 57 56,oL 59 tI 58,oM 9 59]
abbrev bq.r13:=[oM 60 8,oE 61 aj 3 cH 7,oJ 62 2 tI 61 60,oU (.store tI [] (.s 62) (qI (-1)))]
abbrev bq.r14:=[oM 64 9,oI 65 .lss 64 0,oM 66 65,oF 67 9 66,zB 68 .geq 67 9 66,oO 69 66 68,oM 63 69]
abbrev bq.r15:=[oM 70 8,oE 71 aj 3 cH 7,oJ 72 2 tI 71 70,oU (.store tI [] (.s 72) (qI (-1)))]
abbrev bq.r16:=[oM 74 1,oM 75 9,oK 76 74,oE 77 ac 2 dD 76,oJ 78 9 cf 77 75,oE 79 cf 0 tI 78,oL 80 tI 79,oE 81 aj 1 tI 7,oL 82 tI 81,oB 83 .eql 80 82,oM 73 83]
abbrev bq.r17:=[oM 85 1,oM 86 2,oK 87 85,oE 88 ac 0 aK 87,oJ 89 8 aj 88 86,oE 90 aj 0 tB 89,oL 91 tB 90,oM 92 91,oT 93 1 92,oT 94 2 92,pK 95 93 92,pE 96 ac 0 aK 95 92,pJ 97 8 aj 96 94 92,pE 98 aj 1 tI 97 92,pL 99 tI 98 92,pE 100 aj 1 tI 7 92,pL 101 tI 100 92,pB 102 .eql 99 101 92,oQ 103 92 102,oM 84 103]
abbrev bq.r18:=[oM 104 8,oM 105 1,oM 106 2,oM 107 8,oK 108 105,oE 109 ac 0 aK 108,oJ 110 8 aj 109 106,oE 111 aj 3 cH 110,oJ 112 2 tI 111 107,oL 113 tI 112,oE 114 aj 3 cH 7,oJ 115 2 tI 114 104,oS tI 115 113]
abbrev bq.r19:=[oL 116 aj 7,oS aj 6 116]
abbrev bq.body:=gS (gR bq.r0 []) (gS (gR bq.r1 [10,11,12,13,14,15]) (gS (gS (gR bq.r2 [16,17]) (gC 18 (gS (gS (gR bq.r3 [19,20,21,22,23,24,25,26,27,28,29,30,31,32]) (gC 33 (gS (gR bq.r4 [34]) .ret) .skip)) (gS (gR bq.r5 [35,36,37,38,39,40]) (gS (gR bq.r6 [0,1,2,41,42,43,44,45]) (gS (gR bq.r7 [7,46]) .ret)))) .skip)) (gS (gR bq.r8 [0,47,48,49,50,51]) (gS (gS (gR bq.r9 []) (.block 0 (.loop [1,2,6,7,8] [6,7] (gS (gS (gR bq.r10 [52]) (gC 53 .skip (.exit 0))) (gS (.block 1 (gS (gR bq.r12 [56,57,58,59]) (.block 2 (gS (gR bq.r14 [64,65,66,67,68,69]) (gC 63 (gR bq.r15 [70,71,72]) (gS (gT bq.r16 [9,74,75,76,77,78,79,80,81,82,83]) (gC 73 .skip (gS (gT bq.r17 [85,86,87,88,89,90,91,92,93,94,95,96,97,98,99,100,101,102,103]) (gC 84 (gR bq.r18 [104,105,106,107,108,109,110,111,112,113,114,115]) (gR bq.r13 [60,61,62])))))))))) (gR bq.r11 [54,55])))))) (gS (gR bq.r19 [7,116]) .ret)))))
abbrev bq:=gF 3 [.cell 6 aj] bq.body
abbrev bM.r0:=[pN 8 aq]
abbrev bM.r1:=[oM 12 0,oM 13 2,oM 14 3,oK 15 12,oE 16 ac 1 cI 15,oJ 17 3 dC 16 13,oJ 18 4 aq 17 14,oL 19 aq 18,oM 20 1,oM 21 2,oM 22 3,oK 23 20,oE 24 ac 1 cI 23,oJ 25 3 dC 24 21,oJ 26 4 aq 25 22,oN 27 (.load false (some 1) aq (.s 26)),pN 9 aq,pN 10 aq,oU (.store aq [1] (.s 9) (.s 19)),oS aq 10 27]
abbrev bM.r2:=[oL 29 aq 9,oL 30 aq 10,oN 31 (.eq false aq (.s 29) (.s 30)),oM 28 31]
abbrev bM.r3:=[oL 32 aq 10,oS aq 8 32]
abbrev bM.r4:=[oE 34 aq 0 tS 10,oL 35 tS 34,pV 36 .eql 35 (qS #[]),oM 37 36,pE 38 aq 1 tI 9 37,pL 39 tI 38 37,oG 40 (.bin .lss (.s 39) (qI 0)) 37,oT 41 40 37,zE 42 aq 1 tI 9 41,zL 43 tI 42 41,zB 44 .geq 43 8 41,oG 45 (.pick (.s 41) qT (.s 44)) 37,oQ 46 37 45,oM 33 46]
abbrev bM.r5:=[oL 47 aq 10,oS aq 8 47]
abbrev bM.r6:=[oE 49 aq 0 tS 10,oL 50 tS 49,pV 51 .eql 50 (qS #[]),oM 48 51]
abbrev bM.r7:=[oM 52 1,oE 53 aq 1 tI 9,oL 54 tI 53,oK 55 52,oE 56 ac 0 aK 55,oJ 57 8 aj 56 54,oL 58 aj 57,pN 11 aj,oS aj 11 58]
abbrev bM.r8:=[oE 59 aj 0 tB 11,oL 60 tB 59,oM 61 60,pE 62 aj 1 tI 11 61,pL 63 tI 62 61,pE 64 aq 2 tI 9 61,pL 65 tI 64 61,pB 66 .eql 63 65 61,oQ 67 61 66,oM 68 67,pE 69 aj 2 tI 11 68,pL 70 tI 69 68,oT 71 1 68,pE 72 aq 1 tI 9 68,pL 73 tI 72 68,oG 74 (.call true [] 12 [(.s 71),(.s 73)]) 68,pB 75 .gtr 70 74 68,oQ 76 68 75]
abbrev bM.r9:=[oL 77 aq 9,oS aq 8 77]
abbrev bM.r10:=[oL 78 aq 10,oS aq 8 78]
abbrev bM.r11:=[oM 80 1,oE 81 aq 1 tI 10,oL 82 tI 81,oA 83 12 [(.s 80),(.s 82)],oI 84 .gtr 83 1,oM 85 84,oF 86 0 85,zE 87 aq 1 tI 10 85,zL 88 tI 87 85,oH 89 (.call false [] 12 [(.s 86),(.s 88)]) 85,zB 90 .eql 89 0 85,oO 91 85 90,oM 79 91]
abbrev bM.r12:=[oN 92 (.build aq []),oS aq 8 92]
abbrev bM.r13:=[oL 93 aq 10,oS aq 8 93]
abbrev bM.body:=gS (gR bM.r0 []) (gS (gT bM.r1 [2,3,12,13,14,15,16,17,18,19,20,21,22,23,24,25,26,27]) (gS (.block 0 (gS (gR bM.r2 [29,30,31]) (gC 28 (gS (gR bM.r3 [10,32]) .ret) (gS (gR bM.r4 [34,35,36,37,38,39,40,41,42,43,44,45,46]) (gC 33 (gS (gR bM.r5 [10,47]) .ret) (gS (gR bM.r6 [49,50,51]) (gC 48 (gS (gT bM.r7 [52,53,54,55,56,57,58]) (gS (gS (gT bM.r8 [1,11,59,60,61,62,63,64,65,66,67,68,69,70,71,72,73,74,75]) (gC 76 (gS (gR bM.r9 [9,77]) .ret) .skip)) (gS (gR bM.r10 [10,78]) .ret))) (gS (gR bM.r11 [0,1,80,81,82,83,84,85,86,87,88,89,90,91]) (gC 79 (gS (gR bM.r12 [92]) .ret) .skip))))))))) (gS (gR bM.r13 [10,93]) .ret)))
abbrev bM:=gF 4 [.cell 8 aq] bM.body
abbrev bU.r0:=[pN 8 aq]
abbrev bU.r1:=[oM 12 0,oM 13 2,oM 14 3,oK 15 12,oE 16 ac 1 cI 15,oJ 17 3 dC 16 13,oJ 18 4 aq 17 14,oL 19 aq 18,oM 20 1,oM 21 2,oM 22 3,oK 23 20,oE 24 ac 1 cI 23,oJ 25 3 dC 24 21,oJ 26 4 aq 25 22,oN 27 (.load false (some 1) aq (.s 26)),pN 9 aq,pN 10 aq,oU (.store aq [1] (.s 9) (.s 19)),oS aq 10 27]
abbrev bU.r2:=[oL 28 aq 9,oL 29 aq 10,oN 30 (.eq false aq (.s 28) (.s 29))]
abbrev bU.r3:=[oL 31 aq 9,oS aq 8 31]
abbrev bU.r4:=[oE 32 aq 0 tS 10,oL 33 tS 32,pV 34 .eql 33 (qS #[])]
abbrev bU.r5:=[oE 35 aq 1 tI 9,oL 36 tI 35,oI 37 .lss 36 0,oM 38 37,zE 39 aq 1 tI 9 38,zL 40 tI 39 38,zB 41 .geq 40 8 38,oO 42 38 41]
abbrev bU.r6:=[oL 43 aq 10,oS aq 8 43]
abbrev bU.r7:=[oM 44 1,oE 45 aq 1 tI 9,oL 46 tI 45,oK 47 44,oE 48 ac 0 aK 47,oJ 49 8 aj 48 46,oL 50 aj 49,pN 11 aj,oS aj 11 50]
abbrev bU.r8:=[oE 51 aj 0 tB 11,oL 52 tB 51,oM 53 52,pE 54 aj 1 tI 11 53,pL 55 tI 54 53,pE 56 aq 2 tI 9 53,pL 57 tI 56 53,pB 58 .eql 55 57 53,oQ 59 53 58,oM 60 59,oT 61 1 60,pE 62 aq 1 tI 9 60,pL 63 tI 62 60,oG 64 (.call true [] 16 [(.s 61),(.s 63)]) 60,pE 65 aj 2 tI 11 60,pL 66 tI 65 60,pB 67 .lss 64 66 60,oQ 68 60 67]
abbrev bU.r9:=[oL 69 aq 9,oS aq 8 69]
abbrev bU.r10:=[oL 70 aq 10,oS aq 8 70]
abbrev bU.r11:=[oM 71 0,oE 72 aq 1 tI 10,oL 73 tI 72,oA 74 16 [(.s 71),(.s 73)],oI 75 .eql 74 0,oM 76 75,oF 77 1 76,zE 78 aq 1 tI 10 76,zL 79 tI 78 76,oH 80 (.call false [] 16 [(.s 77),(.s 79)]) 76,zB 81 .gtr 80 1 76,oO 82 76 81]
abbrev bU.r12:=[oN 83 (.build aq []),oS aq 8 83]
abbrev bU.r13:=[oL 84 aq 10,oS aq 8 84]
abbrev bU.body:=gS (gR bU.r0 []) (gS (gT bU.r1 [2,3,12,13,14,15,16,17,18,19,20,21,22,23,24,25,26,27]) (gS (gS (gR bU.r2 [28,29]) (gC 30 (gS (gR bU.r3 [9,31]) .ret) .skip)) (gS (gS (gR bU.r4 [32,33]) (gC 34 (gS (gS (gR bU.r5 [35,36,37,38,39,40,41]) (gC 42 (gS (gR bU.r6 [10,43]) .ret) .skip)) (gS (gT bU.r7 [44,45,46,47,48,49,50]) (gS (gS (gT bU.r8 [1,11,51,52,53,54,55,56,57,58,59,60,61,62,63,64,65,66,67]) (gC 68 (gS (gR bU.r9 [9,69]) .ret) .skip)) (gS (gR bU.r10 [10,70]) .ret)))) .skip)) (gS (gS (gR bU.r11 [0,1,71,72,73,74,75,76,77,78,79,80,81]) (gC 82 (gS (gR bU.r12 [83]) .ret) .skip)) (gS (gR bU.r13 [10,84]) .ret)))))
abbrev bU:=gF 4 [.cell 8 aq] bU.body
abbrev be.r0:=[pC 2 (qS #[]),oC 3 0]
abbrev be.r1:=[oC 4 0]
abbrev be.r2:=[oC 5 0]
abbrev be.r3:=[oM 8 5,oI 9 .lss 8 8]
abbrev be.r4:=[oM 10 5,oI 11 .add 10 4,oM 5 11]
abbrev be.r5:=[oM 12 4,oM 13 0,oB 14 .eql 12 13]
abbrev be.r6:=[oM 15 5,pC 2 (qS #[105,110,111,100,101,115]),oM 3 15]
abbrev be.r7:=[oM 16 4,oI 17 .add 16 1,oM 4 17]
abbrev be.r8:=[oC 6 0]
abbrev be.r9:=[oM 18 6,oI 19 .lss 18 3]
abbrev be.r10:=[oM 20 6,oI 21 .add 20 1,oM 6 21]
abbrev be.r11:=[oM 22 4,oM 23 0,oB 24 .eql 22 23]
abbrev be.r12:=[oM 25 6,pC 2 (qS #[100,105,114]),oM 3 25]
abbrev be.r13:=[oM 26 4,oI 27 .add 26 1,oM 4 27]
abbrev be.r14:=[oC 7 0]
abbrev be.r15:=[oM 28 7,oI 29 .lss 28 9]
abbrev be.r16:=[oM 30 7,oI 31 .add 30 1,oM 7 31]
abbrev be.r17:=[oM 32 4,oM 33 0,oB 34 .eql 32 33]
abbrev be.r18:=[oM 35 7,pC 2 (qS #[100,97,116,97]),oM 3 35]
abbrev be.r19:=[oM 36 4,oI 37 .add 36 1,oM 4 37]
abbrev be.r20:=[pC 2 (qS #[]),oC 3 0]
abbrev be.body:=gS (gR be.r0 [2,3]) (gS (gR be.r1 []) (gS (gS (gR be.r2 []) (.block 0 (.loop [0,4,5] [] (gS (gS (gR be.r3 [8]) (gC 9 .skip (.exit 0))) (gS (.block 1 (gS (gS (gR be.r5 [12,13]) (gC 14 (gS (gR be.r6 [5,15]) .ret) .skip)) (gR be.r7 [16,17]))) (gR be.r4 [10,11])))))) (gS (gS (gR be.r8 []) (.block 2 (.loop [0,4,6] [] (gS (gS (gR be.r9 [18]) (gC 19 .skip (.exit 2))) (gS (.block 3 (gS (gS (gR be.r11 [22,23]) (gC 24 (gS (gR be.r12 [6,25]) .ret) .skip)) (gR be.r13 [26,27]))) (gR be.r10 [20,21])))))) (gS (gS (gR be.r14 []) (.block 4 (.loop [0,4,7] [] (gS (gS (gR be.r15 [28]) (gC 29 .skip (.exit 4))) (gS (.block 5 (gS (gS (gR be.r17 [32,33]) (gC 34 (gS (gR be.r18 [7,35]) .ret) .skip)) (gR be.r19 [36,37]))) (gR be.r16 [30,31])))))) (gS (gR be.r20 []) .ret)))))
abbrev be:=gF 1 [.tmp 2,.tmp 3] be.body
abbrev ct.r0:=[pC 2 (qS #[]),oC 3 0]
abbrev ct.r1:=[oC 4 2]
abbrev ct.r2:=[oM 6 0,oI 7 .lss 6 0,oM 8 7,oF 9 0 8,zB 10 .geq 9 14 8,oO 11 8 10,oM 5 11]
abbrev ct.r3:=[pC 2 (qS #[]),oC 3 0]
abbrev ct.r4:=[oM 13 0,oM 14 4,oB 15 .lss 13 14,oM 12 15]
abbrev ct.r5:=[oM 16 0,oI 17 .mul 16 4,pC 2 (qS #[105,110,111,100,101,115]),oM 3 17]
abbrev ct.r6:=[oM 19 0,oM 20 4,oI 21 .add 20 3,oB 22 .lss 19 21,oM 18 22]
abbrev ct.r7:=[oM 23 0,oM 24 4,oB 25 .sub 23 24,pC 2 (qS #[100,105,114]),oM 3 25]
abbrev ct.r8:=[oM 26 0,oM 27 4,oB 28 .sub 26 27,oI 29 .sub 28 3,pC 2 (qS #[100,97,116,97]),oM 3 29]
abbrev ct.body:=gS (gR ct.r0 [2,3]) (gS (gR ct.r1 []) (gS (.block 0 (gS (gR ct.r2 [6,7,8,9,10,11]) (gC 5 (gS (gR ct.r3 []) .ret) (gS (gR ct.r4 [13,14,15]) (gC 12 (gS (gR ct.r5 [0,16,17]) .ret) (gS (gR ct.r6 [19,20,21,22]) (gC 18 (gS (gR ct.r7 [0,4,23,24,25]) .ret) .skip))))))) (gS (gR ct.r8 [0,4,26,27,28,29]) .ret)))
abbrev ct:=gF 1 [.tmp 2,.tmp 3] ct.body
abbrev bG.r0:=[pN 6 ac,pC 7 qF]
abbrev bG.r1:=[oM 14 1,oK 15 14,oL 16 ac 15,pN 8 ac,oS ac 8 16]
abbrev bG.r2:=[oM 18 2,oA 19 6 [(.s 18)],oM 17 19,oZ 20 17 0,oZ 21 17 1,oM 9 20,oM 10 21]
abbrev bG.r3:=[oM 22 9]
abbrev bG.r4:=[pV 24 .eql 22 (qS #[105,110,111,100,101,115]),oM 23 24]
abbrev bG.r5:=[oC 11 0]
abbrev bG.r6:=[oM 25 11,oI 26 .lss 25 4]
abbrev bG.r7:=[oM 27 11,oI 28 .add 27 1,oM 11 28]
abbrev bG.r8:=[oM 29 10,oM 30 11,oB 31 .add 29 30,oM 32 0,oM 33 1,oM 34 10,oM 35 11,oB 36 .add 34 35,oA 37 3 [(.s 32),(.s 33),(.s 36)],oE 38 ac 0 aK 8,oJ 39 8 aj 38 31,oS aj 39 37]
abbrev bG.r9:=[pV 41 .eql 22 (qS #[100,105,114]),oM 40 41]
abbrev bG.r10:=[oC 12 0]
abbrev bG.r11:=[oM 42 12,oI 43 .lss 42 4]
abbrev bG.r12:=[oM 44 12,oI 45 .add 44 1,oM 12 45]
abbrev bG.r13:=[oM 46 0,oM 47 10,oM 48 12,oA 49 5 [(.s 46),(.s 8),(.s 47),(.s 48)],pN 13 aq,oS aq 13 49]
abbrev bG.r14:=[oM 50 10,oM 51 12,oL 52 aq 13,oE 53 ac 1 cI 8,oJ 54 3 dC 53 50,oJ 55 4 aq 54 51,oS aq 55 52]
abbrev bG.r15:=[pV 57 .eql 22 (qS #[100,97,116,97]),oM 56 57]
abbrev bG.r16:=[oM 58 10,oM 59 0,oM 60 10,oK 61 59,oE 62 ac 2 dD 61,oJ 63 9 cf 62 60,oL 64 cf 63,oE 65 ac 2 dD 8,oJ 66 9 cf 65 58,oS cf 66 64]
abbrev bG.r17:=[oL 67 ac 8,oM 68 9,pV 69 .neq 68 (qS #[]),oS ac 6 67,oM 7 69]
abbrev bG.body:=gS (gR bG.r0 [7]) (gS (gR bG.r1 [14,15,16]) (gS (gR bG.r2 [2,17,18,19,20,21]) (gS (gS (gR bG.r3 []) (.block 0 (gS (gR bG.r4 [24]) (gC 23 (gS (gR bG.r5 []) (.block 1 (.loop [0,1,6,8,9,10,11] [6,8] (gS (gS (gR bG.r6 [25]) (gC 26 .skip (.exit 1))) (gS (.block 2 (gR bG.r8 [29,30,31,32,33,34,35,36,37,38,39])) (gR bG.r7 [27,28])))))) (gS (gR bG.r9 [41]) (gC 40 (gS (gR bG.r10 []) (.block 3 (.loop [0,6,8,9,10,12] [6,8] (gS (gS (gR bG.r11 [42]) (gC 43 .skip (.exit 3))) (gS (.block 4 (gS (gR bG.r13 [46,47,48,49]) (gT bG.r14 [13,50,51,52,53,54,55]))) (gR bG.r12 [44,45])))))) (gS (gR bG.r15 [22,57]) (gC 56 (gR bG.r16 [0,10,58,59,60,61,62,63,64,65,66]) .skip)))))))) (gS (gR bG.r17 [8,9,67,68,69]) .ret))))
abbrev bG:=gF 3 [.cell 6 ac,.tmp 7] bG.body
abbrev aY.r0:=[pN 6 ac,pC 7 qF]
abbrev aY.r1:=[oM 13 1,oK 14 13,oL 15 ac 14,pN 8 ac,oS ac 8 15]
abbrev aY.r2:=[oM 17 2,oA 18 7 [(.s 17)],oM 16 18,oZ 19 16 0,oZ 20 16 1,oM 9 19,oM 10 20]
abbrev aY.r3:=[oM 21 9]
abbrev aY.r4:=[oM 22 1,oK 23 22,oL 24 ac 23,oS ac 6 24,pC 7 qF]
abbrev aY.r5:=[pV 26 .eql 21 (qS #[105,110,111,100,101,115]),oM 25 26]
abbrev aY.r6:=[oM 27 10,oM 11 27]
abbrev aY.r7:=[oM 28 11,oM 29 10,oI 30 .add 29 4,oB 31 .lss 28 30]
abbrev aY.r8:=[oM 32 11,oI 33 .add 32 1,oM 11 33]
abbrev aY.r9:=[oM 34 11,oM 35 0,oM 36 1,oM 37 11,oA 38 2 [(.s 35),(.s 36),(.s 37)],oE 39 ac 0 aK 8,oJ 40 8 aj 39 34,oS aj 40 38]
abbrev aY.r10:=[pV 42 .eql 21 (qS #[100,105,114]),oM 41 42]
abbrev aY.r11:=[oC 43 0]
abbrev aY.r12:=[oI 44 .lss 43 4]
abbrev aY.r13:=[oM 45 43,oM 12 45]
abbrev aY.r14:=[oM 46 10,oM 47 12,oM 48 0,oM 49 10,oM 50 12,oA 51 4 [(.s 48),(.s 8),(.s 49),(.s 50)],oE 52 ac 1 cI 8,oJ 53 3 dC 52 46,oJ 54 4 aq 53 47,oS aq 54 51]
abbrev aY.r15:=[oI 55 .add 43 1,oM 43 55]
abbrev aY.r16:=[pV 57 .eql 21 (qS #[100,97,116,97]),oM 56 57]
abbrev aY.r17:=[oM 58 10,oM 59 0,oM 60 10,oK 61 59,oE 62 ac 2 dD 61,oJ 63 9 cf 62 60,oL 64 cf 63,oE 65 ac 2 dD 8,oJ 66 9 cf 65 58,oS cf 66 64]
abbrev aY.r18:=[oL 67 ac 8,oS ac 6 67,pC 7 qT]
abbrev aY.body:=gS (gR aY.r0 [7]) (gS (gR aY.r1 [13,14,15]) (gS (gR aY.r2 [2,16,17,18,19,20]) (gS (gS (gR aY.r3 [9]) (.block 0 (gS (gR aY.r5 [26]) (gC 25 (gS (gR aY.r6 [27]) (.block 1 (.loop [0,1,6,8,10,11] [6,8] (gS (gS (gR aY.r7 [28,29,30]) (gC 31 .skip (.exit 1))) (gS (.block 2 (gR aY.r9 [34,35,36,37,38,39,40])) (gR aY.r8 [32,33])))))) (gS (gR aY.r10 [42]) (gC 41 (gS (gR aY.r11 []) (.block 3 (.loop [0,6,8,10,43] [6,8] (gS (gR aY.r12 []) (gS (gC 44 .skip (.exit 3)) (gS (.block 4 (gS (gR aY.r13 [45]) (gT aY.r14 [12,46,47,48,49,50,51,52,53,54]))) (gR aY.r15 [55]))))))) (gS (gR aY.r16 [21,57]) (gC 56 (gR aY.r17 [0,10,58,59,60,61,62,63,64,65,66]) (gS (gR aY.r4 [1,22,23,24]) .ret))))))))) (gS (gR aY.r18 [8,67]) .ret))))
abbrev aY:=gF 3 [.cell 6 ac,.tmp 7] aY.body
abbrev bP.r0:=[oC 4 0]
abbrev bP.r1:=[oC 5 0]
abbrev bP.r2:=[oM 10 0,oK 11 10,oE 12 ac 1 cI 11,oL 13 cI 12,oC 14 0]
abbrev bP.r3:=[oI 15 .lss 14 3]
abbrev bP.r4:=[oN 16 (.aidx 3 dC (.s 13) (.s 14)),pN 7 dC,oS dC 7 16]
abbrev bP.r5:=[oL 17 dC 7,oC 18 0]
abbrev bP.r6:=[oI 19 .lss 18 4]
abbrev bP.r7:=[oN 20 (.aidx 4 aq (.s 17) (.s 18)),pN 9 aq,oS aq 9 20]
abbrev bP.r8:=[oE 21 aq 0 tS 9,oL 22 tS 21,pV 23 .neq 22 (qS #[]),oM 24 23,pE 25 aq 1 tI 9 24,pL 26 tI 25 24,oT 27 1 24,pB 28 .eql 26 27 24,oQ 29 24 28]
abbrev bP.r9:=[oM 30 5,oI 31 .add 30 1,oM 5 31]
abbrev bP.r10:=[oI 32 .add 18 1,oM 18 32]
abbrev bP.r11:=[oI 33 .add 14 1,oM 14 33]
abbrev bP.r12:=[oM 34 5,oM 4 34]
abbrev bP.body:=gS (gR bP.r0 [4]) (gS (gR bP.r1 []) (gS (gS (gR bP.r2 [0,10,11,12]) (.block 0 (.loop [1,5,13,14] [] (gS (gR bP.r3 []) (gS (gC 15 .skip (.exit 0)) (gS (.block 1 (gS (gR bP.r4 [16]) (gS (gR bP.r5 [7]) (.block 2 (.loop [1,5,13,14,17,18] [] (gS (gR bP.r6 []) (gS (gC 19 .skip (.exit 2)) (gS (.block 3 (gS (gR bP.r7 [20]) (gS (gR bP.r8 [9,21,22,23,24,25,26,27,28]) (gC 29 (gR bP.r9 [30,31]) .skip)))) (gR bP.r10 [32]))))))))) (gR bP.r11 [33]))))))) (gS (gR bP.r12 [5,34]) .ret)))
abbrev bP:=gF 2 [.tmp 4] bP.body
abbrev fI.r0:=[pN 0 aj]
abbrev fI.r1:=[oN 3 (.build aj []),pN 1 aj,oS aj 1 3]
abbrev fI.r2:=[oC 2 0]
abbrev fI.r3:=[oM 4 2,oI 5 .lss 4 2]
abbrev fI.r4:=[oM 6 2,oI 7 .add 6 1,oM 2 7]
abbrev fI.r5:=[oM 8 2,oE 9 aj 3 cH 1,oJ 10 2 tI 9 8,oU (.store tI [] (.s 10) (qI (-1)))]
abbrev fI.r6:=[oL 11 aj 1,oS aj 0 11]
abbrev fI.body:=gS (gR fI.r0 []) (gS (gR fI.r1 [3]) (gS (gS (gR fI.r2 []) (.block 0 (.loop [0,1,2] [0,1] (gS (gS (gR fI.r3 [4]) (gC 5 .skip (.exit 0))) (gS (.block 1 (gR fI.r5 [8,9,10])) (gR fI.r4 [6,7])))))) (gS (gR fI.r6 [1,11]) .ret)))
abbrev fI:=gF 0 [.cell 0 aj] fI.body
abbrev cB.r0:=[pC 2 qF]
abbrev cB.r1:=[oM 4 0,oN 5 (.len true (.s 4)),oC 6 0]
abbrev cB.r2:=[oB 7 .lss 6 5]
abbrev cB.r3:=[oM 8 6,oM 3 8]
abbrev cB.r4:=[oM 9 0,oM 10 3,oN 11 (.stridx (.s 9) (.s 10)),oN 12 (.bin .lss (.s 11) (.c (.int .u8 97))),oM 13 12,oF 14 0 13,oF 15 3 13,oH 16 (.stridx (.s 14) (.s 15)) 13,oH 17 (.bin .gtr (.s 16) (.c (.int .u8 122))) 13,oO 18 13 17]
abbrev cB.r5:=[pC 2 qF]
abbrev cB.r6:=[oI 19 .add 6 1,oM 6 19]
abbrev cB.r7:=[oM 20 0,pV 21 .neq 20 (qS #[]),oM 22 21,oT 23 0 22,oG 24 (.len true (.s 23)) 22,oG 25 (.bin .leq (.s 24) (qI 6)) 22,oQ 26 22 25,oM 2 26]
abbrev cB.body:=gS (gR cB.r0 [2]) (gS (gS (gR cB.r1 [4]) (.block 0 (.loop [0,5,6] [5] (gS (gR cB.r2 []) (gS (gC 7 .skip (.exit 0)) (gS (.block 1 (gS (gR cB.r3 [8]) (gS (gR cB.r4 [3,9,10,11,12,13,14,15,16,17]) (gC 18 (gS (gR cB.r5 []) .ret) .skip)))) (gR cB.r6 [19]))))))) (gS (gR cB.r7 [0,20,21,22,23,24,25,26]) .ret))
abbrev cB:=gF 1 [.tmp 2] cB.body
abbrev cX.r0:=[pC 2 qF]
abbrev cX.r1:=[oM 4 0,oN 5 (.len true (.s 4)),oI 6 .lss 5 1,oM 7 6,oF 8 0 7,oH 9 (.len true (.s 8)) 7,zB 10 .gtr 9 6 7,oO 11 7 10]
abbrev cX.r2:=[pC 2 qF]
abbrev cX.r3:=[oC 3 0]
abbrev cX.r4:=[oM 12 3,oM 13 0,oN 14 (.len true (.s 13)),oB 15 .lss 12 14]
abbrev cX.r5:=[oM 16 3,oI 17 .add 16 1,oM 3 17]
abbrev cX.r6:=[oM 18 0,oM 19 3,oN 20 (.stridx (.s 18) (.s 19)),oN 21 (.bin .lss (.s 20) (.c (.int .u8 97))),oM 22 21,oF 23 0 22,oF 24 3 22,oH 25 (.stridx (.s 23) (.s 24)) 22,oH 26 (.bin .gtr (.s 25) (.c (.int .u8 122))) 22,oO 27 22 26]
abbrev cX.r7:=[pC 2 qF]
abbrev cX.r8:=[pC 2 qT]
abbrev cX.body:=gS (gR cX.r0 [2]) (gS (gS (gR cX.r1 [4,5,6,7,8,9,10]) (gC 11 (gS (gR cX.r2 []) .ret) .skip)) (gS (gS (gR cX.r3 []) (.block 0 (.loop [0,3] [] (gS (gS (gR cX.r4 [12,13,14]) (gC 15 .skip (.exit 0))) (gS (.block 1 (gS (gR cX.r6 [18,19,20,21,22,23,24,25,26]) (gC 27 (gS (gR cX.r7 []) .ret) .skip))) (gR cX.r5 [16,17])))))) (gS (gR cX.r8 []) .ret)))
abbrev cX:=gF 1 [.tmp 2] cX.body
abbrev dw.r0:=[oC 4 0]
abbrev dw.r1:=[oC 5 0]
abbrev dw.r2:=[oC 6 0]
abbrev dw.r3:=[oM 8 6,oI 9 .lss 8 3]
abbrev dw.r4:=[oM 10 6,oI 11 .add 10 1,oM 6 11]
abbrev dw.r5:=[oC 7 0]
abbrev dw.r6:=[oM 12 7,oI 13 .lss 12 4]
abbrev dw.r7:=[oM 14 7,oI 15 .add 14 1,oM 7 15]
abbrev dw.r8:=[oM 16 0,oM 17 6,oM 18 7,oM 19 1,oA 20 31 [(.s 16),(.s 17),(.s 18),(.s 19)]]
abbrev dw.r9:=[oM 21 5,oI 22 .add 21 1,oM 5 22]
abbrev dw.r10:=[oM 23 5,oM 4 23]
abbrev dw.body:=gS (gR dw.r0 [4]) (gS (gR dw.r1 []) (gS (gS (gR dw.r2 []) (.block 0 (.loop [0,1,5,6] [] (gS (gS (gR dw.r3 [8]) (gC 9 .skip (.exit 0))) (gS (.block 1 (gS (gR dw.r5 []) (.block 2 (.loop [0,1,5,6,7] [] (gS (gS (gR dw.r6 [12]) (gC 13 .skip (.exit 2))) (gS (.block 3 (gS (gR dw.r8 [16,17,18,19]) (gC 20 (gR dw.r9 [21,22]) .skip))) (gR dw.r7 [14,15]))))))) (gR dw.r4 [10,11])))))) (gS (gR dw.r10 [5,23]) .ret)))
abbrev dw:=gF 2 [.tmp 4] dw.body
abbrev cp.r0:=[pC 4 qF]
abbrev cp.r1:=[oM 7 0,oK 8 7,oE 9 ac 0 aK 8,oL 10 aK 9,oC 11 0]
abbrev cp.r2:=[oI 12 .lss 11 8]
abbrev cp.r3:=[oN 13 (.aidx 8 aj (.s 10) (.s 11)),pN 6 aj,oS aj 6 13]
abbrev cp.r4:=[oE 14 aj 0 tB 6,oL 15 tB 14,oM 16 15,pE 17 aj 3 cH 6 16,oG 18 (.idx 2 tI (.s 17) (qI 0)) 16,pL 19 tI 18 16,oT 20 1 16,pB 21 .eql 19 20 16,oQ 22 16 21,oM 23 22,zE 24 aj 0 tB 6 23,zL 25 tB 24 23,oF 26 25 23,pE 27 aj 3 cH 6 26,oG 28 (.idx 2 tI (.s 27) (qI 1)) 26,pL 29 tI 28 26,oT 30 1 26,pB 31 .eql 29 30 26,oH 32 (.pick (.s 26) (.s 31) qF) 23,oO 33 23 32]
abbrev cp.r5:=[pC 4 qT]
abbrev cp.r6:=[oI 34 .add 11 1,oM 11 34]
abbrev cp.r7:=[pC 4 qF]
abbrev cp.body:=gS (gR cp.r0 [4]) (gS (gS (gR cp.r1 [0,7,8,9]) (.block 0 (.loop [1,10,11] [] (gS (gR cp.r2 []) (gS (gC 12 .skip (.exit 0)) (gS (.block 1 (gS (gR cp.r3 [13]) (gS (gR cp.r4 [6,14,15,16,17,18,19,20,21,22,23,24,25,26,27,28,29,30,31,32]) (gC 33 (gS (gR cp.r5 []) .ret) .skip)))) (gR cp.r6 [34]))))))) (gS (gR cp.r7 []) .ret))
abbrev cp:=gF 2 [.tmp 4] cp.body
abbrev d9.r0:=[pC 4 qF]
abbrev d9.r1:=[oC 5 0]
abbrev d9.r2:=[oM 7 5,oI 8 .lss 7 8]
abbrev d9.r3:=[oM 9 5,oI 10 .add 9 1,oM 5 10]
abbrev d9.r4:=[oC 6 0]
abbrev d9.r5:=[oM 11 6,oI 12 .lss 11 2]
abbrev d9.r6:=[oM 13 6,oI 14 .add 13 1,oM 6 14]
abbrev d9.r7:=[oM 15 0,oM 16 5,oK 17 15,oE 18 ac 0 aK 17,oJ 19 8 aj 18 16,oE 20 aj 0 tB 19,oL 21 tB 20,oM 22 21,oT 23 0 22,oT 24 5 22,oT 25 6 22,pK 26 23 22,pE 27 ac 0 aK 26 22,pJ 28 8 aj 27 24 22,pE 29 aj 3 cH 28 22,pJ 30 2 tI 29 25 22,pL 31 tI 30 22,oT 32 1 22,pB 33 .eql 31 32 22,oQ 34 22 33]
abbrev d9.r8:=[pC 4 qT]
abbrev d9.r9:=[pC 4 qF]
abbrev d9.body:=gS (gR d9.r0 [4]) (gS (gS (gR d9.r1 []) (.block 0 (.loop [0,1,5] [] (gS (gS (gR d9.r2 [7]) (gC 8 .skip (.exit 0))) (gS (.block 1 (gS (gR d9.r4 []) (.block 2 (.loop [0,1,5,6] [] (gS (gS (gR d9.r5 [11]) (gC 12 .skip (.exit 2))) (gS (.block 3 (gS (gR d9.r7 [15,16,17,18,19,20,21,22,23,24,25,26,27,28,29,30,31,32,33]) (gC 34 (gS (gR d9.r8 []) .ret) .skip))) (gR d9.r6 [13,14]))))))) (gR d9.r3 [9,10])))))) (gS (gR d9.r9 []) .ret))
abbrev d9:=gF 2 [.tmp 4] d9.body
abbrev b8.r0:=[oC 6 0]
abbrev b8.r1:=[oM 9 1,oI 10 .lss 9 0,oM 11 10,oF 12 1 11,zB 13 .geq 12 3 11,oO 14 11 13,oM 15 14,oF 16 2 15,oH 17 (.bin .eql (.s 16) (qS #[])) 15,oO 18 15 17]
abbrev b8.r2:=[pC 6 (qI (-1))]
abbrev b8.r3:=[oM 19 0,oM 20 1,oK 21 19,oE 22 ac 1 cI 21,oJ 23 3 dC 22 20,oL 24 dC 23,oC 25 0]
abbrev b8.r4:=[oI 26 .lss 25 4]
abbrev b8.r5:=[oM 27 25,oN 28 (.aidx 4 aq (.s 24) (.s 25)),pN 8 aq,oM 7 27,oS aq 8 28]
abbrev b8.r6:=[oE 29 aq 0 tS 8,oL 30 tS 29,oM 31 2,oB 32 .eql 30 31]
abbrev b8.r7:=[oM 33 7,oM 6 33]
abbrev b8.r8:=[oI 34 .add 25 1,oM 25 34]
abbrev b8.r9:=[pC 6 (qI (-1))]
abbrev b8.body:=gS (gR b8.r0 [6]) (gS (gS (gR b8.r1 [9,10,11,12,13,14,15,16,17]) (gC 18 (gS (gR b8.r2 []) .ret) .skip)) (gS (gS (gR b8.r3 [0,1,19,20,21,22,23]) (.block 0 (.loop [2,24,25] [] (gS (gR b8.r4 []) (gS (gC 26 .skip (.exit 0)) (gS (.block 1 (gS (gR b8.r5 [27,28]) (gS (gR b8.r6 [8,29,30,31]) (gC 32 (gS (gR b8.r7 [7,33]) .ret) .skip)))) (gR b8.r8 [34]))))))) (gS (gR b8.r9 []) .ret)))
abbrev b8:=gF 3 [.tmp 6] b8.body
abbrev dj.r0:=[oC 6 0]
abbrev dj.r1:=[oM 8 1,oI 9 .lss 8 0,oM 10 9,oF 11 1 10,zB 12 .geq 11 3 10,oO 13 10 12,oM 14 13,oF 15 2 14,oH 16 (.bin .eql (.s 15) (qS #[])) 14,oO 17 14 16]
abbrev dj.r2:=[pC 6 (qI (-1))]
abbrev dj.r3:=[oC 7 0]
abbrev dj.r4:=[oM 18 7,oI 19 .lss 18 4]
abbrev dj.r5:=[oM 20 7,oI 21 .add 20 1,oM 7 21]
abbrev dj.r6:=[oM 22 0,oM 23 1,oM 24 7,oK 25 22,oE 26 ac 1 cI 25,oJ 27 3 dC 26 23,oJ 28 4 aq 27 24,oE 29 aq 0 tS 28,oL 30 tS 29,oM 31 2,oB 32 .eql 30 31]
abbrev dj.r7:=[oM 33 7,oM 6 33]
abbrev dj.r8:=[pC 6 (qI (-1))]
abbrev dj.body:=gS (gR dj.r0 [6]) (gS (gS (gR dj.r1 [8,9,10,11,12,13,14,15,16]) (gC 17 (gS (gR dj.r2 []) .ret) .skip)) (gS (gS (gR dj.r3 []) (.block 0 (.loop [0,1,2,7] [] (gS (gS (gR dj.r4 [18]) (gC 19 .skip (.exit 0))) (gS (.block 1 (gS (gR dj.r6 [22,23,24,25,26,27,28,29,30,31]) (gC 32 (gS (gR dj.r7 [7,33]) .ret) .skip))) (gR dj.r5 [20,21])))))) (gS (gR dj.r8 []) .ret)))
abbrev dj:=gF 3 [.tmp 6] dj.body
abbrev aG.r0:=[oC 2 0]
abbrev aG.r1:=[oC 8 0]
abbrev aG.r2:=[oI 9 .lss 8 3]
abbrev aG.r3:=[oM 10 8,oM 3 10]
abbrev aG.r4:=[oC 11 0]
abbrev aG.r5:=[oI 12 .lss 11 4]
abbrev aG.r6:=[oM 13 11,oM 4 13]
abbrev aG.r7:=[oM 14 0,oM 15 3,oM 16 4,oA 17 37 [(.s 14),(.s 15),(.s 16)],oM 5 17]
abbrev aG.r8:=[oM 18 5,oI 19 .neq 18 0]
abbrev aG.r9:=[oM 20 5,oM 2 20]
abbrev aG.r10:=[oI 21 .add 11 1,oM 11 21]
abbrev aG.r11:=[oI 22 .add 8 1,oM 8 22]
abbrev aG.r12:=[oC 23 0]
abbrev aG.r13:=[oI 24 .lss 23 8]
abbrev aG.r14:=[oM 25 23,oM 6 25]
abbrev aG.r15:=[oM 26 0,oM 27 6,oA 28 36 [(.s 26),(.s 27)],oM 7 28]
abbrev aG.r16:=[oM 29 7,oI 30 .neq 29 0]
abbrev aG.r17:=[oM 31 7,oM 2 31]
abbrev aG.r18:=[oI 32 .add 23 1,oM 23 32]
abbrev aG.r19:=[oM 33 0,oA 34 35 [(.s 33)]]
abbrev aG.r20:=[oC 2 11]
abbrev aG.r21:=[oC 2 0]
abbrev aG.body:=gS (gR aG.r0 [2]) (gS (gS (gR aG.r1 []) (.block 0 (.loop [0,8] [] (gS (gR aG.r2 []) (gS (gC 9 .skip (.exit 0)) (gS (.block 1 (gS (gR aG.r3 [10]) (gS (gR aG.r4 []) (.block 2 (.loop [0,3,8,11] [] (gS (gR aG.r5 []) (gS (gC 12 .skip (.exit 2)) (gS (.block 3 (gS (gR aG.r6 [13]) (gS (gR aG.r7 [4,14,15,16,17]) (gS (gR aG.r8 [18]) (gC 19 (gS (gR aG.r9 [5,20]) .ret) .skip))))) (gR aG.r10 [21]))))))))) (gR aG.r11 [22]))))))) (gS (gS (gR aG.r12 []) (.block 4 (.loop [0,23] [] (gS (gR aG.r13 []) (gS (gC 24 .skip (.exit 4)) (gS (.block 5 (gS (gR aG.r14 [25]) (gS (gR aG.r15 [6,26,27,28]) (gS (gR aG.r16 [29]) (gC 30 (gS (gR aG.r17 [7,31]) .ret) .skip))))) (gR aG.r18 [32]))))))) (gS (gS (gR aG.r19 [0,33]) (gC 34 (gS (gR aG.r20 []) .ret) .skip)) (gS (gR aG.r21 []) .ret))))
abbrev aG:=gF 1 [.tmp 2] aG.body
abbrev al.r0:=[oC 2 0]
abbrev al.r1:=[oC 3 0]
abbrev al.r2:=[oM 14 3,oI 15 .lss 14 3]
abbrev al.r3:=[oM 16 3,oI 17 .add 16 1,oM 3 17]
abbrev al.r4:=[oC 4 0]
abbrev al.r5:=[oM 18 4,oI 19 .lss 18 4]
abbrev al.r6:=[oM 20 4,oI 21 .add 20 1,oM 4 21]
abbrev al.r7:=[oM 22 0,oM 23 3,oM 24 4,oK 25 22,oE 26 ac 1 cI 25,oJ 27 3 dC 26 23,oJ 28 4 aq 27 24,oL 29 aq 28,pN 5 aq,oS aq 5 29]
abbrev al.r8:=[oE 30 aq 0 tS 5,oL 31 tS 30,pV 32 .eql 31 (qS #[])]
abbrev al.r9:=[oE 33 aq 1 tI 5,oL 34 tI 33,oI 35 .neq 34 0,oM 36 35,zE 37 aq 2 tI 5 36,zL 38 tI 37 36,zB 39 .neq 38 0 36,oO 40 36 39]
abbrev al.r10:=[oC 2 12]
abbrev al.r11:=[oE 41 aq 0 tS 5,oL 42 tS 41,oA 43 15 [(.s 42)],pU 44 43]
abbrev al.r12:=[oC 2 2]
abbrev al.r13:=[oM 45 0,oM 46 3,oE 47 aq 0 tS 5,oL 48 tS 47,oA 49 20 [(.s 45),(.s 46),(.s 48)],oM 50 4,oB 51 .lss 49 50]
abbrev al.r14:=[oC 2 4]
abbrev al.r15:=[oE 52 aq 1 tI 5,oL 53 tI 52,oI 54 .lss 53 0,oM 55 54,zE 56 aq 1 tI 5 55,zL 57 tI 56 55,zB 58 .geq 57 8 55,oO 59 55 58]
abbrev al.r16:=[oC 2 1]
abbrev al.r17:=[oM 60 0,oE 61 aq 1 tI 5,oL 62 tI 61,oK 63 60,oE 64 ac 0 aK 63,oJ 65 8 aj 64 62,oE 66 aj 0 tB 65,oL 67 tB 66,pU 68 67,oM 69 68,oF 70 0 69,zE 71 aq 1 tI 5 69,zL 72 tI 71 69,oH 73 (.nilck (.s 70)) 69,zE 74 ac 0 aK 73 69,oH 75 (.idx 8 aj (.s 74) (.s 72)) 69,zE 76 aj 1 tI 75 69,zL 77 tI 76 69,zE 78 aq 2 tI 5 69,zL 79 tI 78 69,oH 80 (.bin .neq (.s 77) (.s 79)) 69,oO 81 69 80]
abbrev al.r18:=[oC 2 8]
abbrev al.r19:=[oC 6 0]
abbrev al.r20:=[oM 82 6,oI 83 .lss 82 8]
abbrev al.r21:=[oM 84 6,oI 85 .add 84 1,oM 6 85]
abbrev al.r22:=[oM 86 0,oM 87 6,oK 88 86,oE 89 ac 0 aK 88,oJ 90 8 aj 89 87,oL 91 aj 90,pN 7 aj,oS aj 7 91]
abbrev al.r23:=[oE 92 aj 0 tB 7,oL 93 tB 92,pU 94 93]
abbrev al.r24:=[oL 95 aj 7,oN 96 (.call true [] 13 []),oN 97 (.eq true aj (.s 95) (.s 96))]
abbrev al.r25:=[oC 2 12]
abbrev al.r26:=[oE 98 aj 1 tI 7,oL 99 tI 98,oI 100 .lss 99 1,oM 101 100,zE 102 aj 2 tI 7 101,zL 103 tI 102 101,oF 104 0 101,oF 105 6 101,oH 106 (.call true [] 16 [(.s 104),(.s 105)]) 101,oH 107 (.bin .lss (.s 103) (.s 106)) 101,oO 108 101 107]
abbrev al.r27:=[oC 2 9]
abbrev al.r28:=[oC 8 0]
abbrev al.r29:=[oM 109 8,oI 110 .lss 109 2]
abbrev al.r30:=[oM 111 8,oI 112 .add 111 1,oM 8 112]
abbrev al.r31:=[oM 113 8,oE 114 aj 3 cH 7,oJ 115 2 tI 114 113,oL 116 tI 115,oM 9 116]
abbrev al.r32:=[oM 117 9,oI 118 .neq 117 (-1),oM 119 118,oT 120 9 119,oG 121 (.bin .lss (.s 120) (qI 0)) 119,oT 122 121 119,oF 123 9 122,zB 124 .geq 123 9 122,oG 125 (.pick (.s 122) qT (.s 124)) 119,oQ 126 119 125]
abbrev al.r33:=[oC 2 1]
abbrev al.r34:=[oM 127 9,oI 128 .neq 127 (-1),oM 129 128,oT 130 0 129,oT 131 9 129,pK 132 130 129,pE 133 ac 2 dD 132 129,pJ 134 9 cf 133 131 129,pE 135 cf 0 tI 134 129,pL 136 tI 135 129,pE 137 aj 1 tI 7 129,pL 138 tI 137 129,pB 139 .neq 136 138 129,oQ 140 129 139]
abbrev al.r35:=[oC 2 10]
abbrev al.r36:=[oC 10 0]
abbrev al.r37:=[oM 141 10,oI 142 .lss 141 8]
abbrev al.r38:=[oM 143 10,oI 144 .add 143 1,oM 10 144]
abbrev al.r39:=[oC 11 0]
abbrev al.r40:=[oM 145 11,oI 146 .lss 145 8]
abbrev al.r41:=[oM 147 11,oI 148 .add 147 1,oM 11 148]
abbrev al.r42:=[oM 149 0,oM 150 10,oK 151 149,oE 152 ac 0 aK 151,oJ 153 8 aj 152 150,oE 154 aj 0 tB 153,oL 155 tB 154,pU 156 155,oM 157 156,oF 158 0 157,oF 159 11 157,oH 160 (.nilck (.s 158)) 157,zE 161 ac 0 aK 160 157,oH 162 (.idx 8 aj (.s 161) (.s 159)) 157,zE 163 aj 0 tB 162 157,zL 164 tB 163 157,oH 165 (.un .not (.s 164)) 157,oO 166 157 165]
abbrev al.r43:=[oM 167 10,oM 168 11,oB 169 .neq 167 168,oM 170 169,oT 171 0 170,oT 172 10 170,pK 173 171 170,pE 174 ac 0 aK 173 170,pJ 175 8 aj 174 172 170,pE 176 aj 1 tI 175 170,pL 177 tI 176 170,oT 178 0 170,oT 179 11 170,pK 180 178 170,pE 181 ac 0 aK 180 170,pJ 182 8 aj 181 179 170,pE 183 aj 1 tI 182 170,pL 184 tI 183 170,pB 185 .eql 177 184 170,oQ 186 170 185]
abbrev al.r44:=[oC 2 11]
abbrev al.r45:=[oC 12 0]
abbrev al.r46:=[oM 187 12,oI 188 .lss 187 2]
abbrev al.r47:=[oM 189 12,oI 190 .add 189 1,oM 12 190]
abbrev al.r48:=[oC 13 0]
abbrev al.r49:=[oM 191 13,oI 192 .lss 191 2]
abbrev al.r50:=[oM 193 13,oI 194 .add 193 1,oM 13 194]
abbrev al.r51:=[oM 195 10,oM 196 11,oB 197 .neq 195 196,oM 198 197,oF 199 12 198,oF 200 13 198,oH 201 (.bin .neq (.s 199) (.s 200)) 198,oO 202 198 201,oM 203 202,oT 204 0 203,oT 205 10 203,oT 206 12 203,pK 207 204 203,pE 208 ac 0 aK 207 203,pJ 209 8 aj 208 205 203,pE 210 aj 3 cH 209 203,pJ 211 2 tI 210 206 203,pL 212 tI 211 203,oG 213 (.bin .geq (.s 212) (qI 0)) 203,oQ 214 203 213,oM 215 214,oT 216 0 215,oT 217 10 215,oT 218 12 215,pK 219 216 215,pE 220 ac 0 aK 219 215,pJ 221 8 aj 220 217 215,pE 222 aj 3 cH 221 215,pJ 223 2 tI 222 218 215,pL 224 tI 223 215,oT 225 0 215,oT 226 11 215,oT 227 13 215,pK 228 225 215,pE 229 ac 0 aK 228 215,pJ 230 8 aj 229 226 215,pE 231 aj 3 cH 230 215,pJ 232 2 tI 231 227 215,pL 233 tI 232 215,pB 234 .eql 224 233 215,oQ 235 215 234]
abbrev al.r52:=[oC 2 11]
abbrev al.r53:=[oC 2 0]
abbrev al.body:=gS (gR al.r0 [2]) (gS (gS (gR al.r1 []) (.block 0 (.loop [0,3] [] (gS (gS (gR al.r2 [14]) (gC 15 .skip (.exit 0))) (gS (.block 1 (gS (gR al.r4 []) (.block 2 (.loop [0,3,4] [] (gS (gS (gR al.r5 [18]) (gC 19 .skip (.exit 2))) (gS (.block 3 (gS (gR al.r7 [22,23,24,25,26,27,28,29]) (gS (gS (gR al.r8 [30,31]) (gC 32 (gS (gS (gR al.r9 [5,33,34,35,36,37,38,39]) (gC 40 (gS (gR al.r10 []) .ret) .skip)) (.exit 3)) .skip)) (gS (gS (gR al.r11 [41,42,43]) (gC 44 (gS (gR al.r12 []) .ret) .skip)) (gS (gS (gR al.r13 [45,46,47,48,49,50]) (gC 51 (gS (gR al.r14 []) .ret) .skip)) (gS (gS (gR al.r15 [52,53,54,55,56,57,58]) (gC 59 (gS (gR al.r16 []) .ret) .skip)) (gS (gT al.r17 [5,60,61,62,63,64,65,66,67,68,69,70,71,72,73,74,75,76,77,78,79,80]) (gC 81 (gS (gR al.r18 []) .ret) .skip)))))))) (gR al.r6 [20,21]))))))) (gR al.r3 [16,17])))))) (gS (gS (gR al.r19 []) (.block 4 (.loop [0,6] [] (gS (gS (gR al.r20 [82]) (gC 83 .skip (.exit 4))) (gS (.block 5 (gS (gR al.r22 [86,87,88,89,90,91]) (gS (gS (gR al.r23 [92,93]) (gC 94 (gS (gS (gT al.r24 [7,95,96]) (gC 97 (gS (gR al.r25 []) .ret) .skip)) (.exit 5)) .skip)) (gS (gS (gT al.r26 [98,99,100,101,102,103,104,105,106,107]) (gC 108 (gS (gR al.r27 []) .ret) .skip)) (gS (gR al.r28 []) (.block 6 (.loop [0,6,7,8] [7] (gS (gS (gR al.r29 [109]) (gC 110 .skip (.exit 6))) (gS (.block 7 (gS (gR al.r31 [113,114,115,116]) (gS (gS (gR al.r32 [117,118,119,120,121,122,123,124,125]) (gC 126 (gS (gR al.r33 []) .ret) .skip)) (gS (gT al.r34 [9,127,128,129,130,131,132,133,134,135,136,137,138,139]) (gC 140 (gS (gR al.r35 []) .ret) .skip))))) (gR al.r30 [111,112])))))))))) (gR al.r21 [84,85])))))) (gS (gS (gR al.r36 []) (.block 8 (.loop [0,10] [] (gS (gS (gR al.r37 [141]) (gC 142 .skip (.exit 8))) (gS (.block 9 (gS (gR al.r39 []) (.block 10 (.loop [0,10,11] [] (gS (gS (gR al.r40 [145]) (gC 146 .skip (.exit 10))) (gS (.block 11 (gS (gS (gR al.r42 [149,150,151,152,153,154,155,156,157,158,159,160,161,162,163,164,165]) (gC 166 (.exit 11) .skip)) (gS (gS (gT al.r43 [167,168,169,170,171,172,173,174,175,176,177,178,179,180,181,182,183,184,185]) (gC 186 (gS (gR al.r44 []) .ret) .skip)) (gS (gR al.r45 []) (.block 12 (.loop [0,10,11,12] [] (gS (gS (gR al.r46 [187]) (gC 188 .skip (.exit 12))) (gS (.block 13 (gS (gR al.r48 []) (.block 14 (.loop [0,10,11,12,13] [] (gS (gS (gR al.r49 [191]) (gC 192 .skip (.exit 14))) (gS (.block 15 (gS (gT al.r51 [195,196,197,198,199,200,201,202,203,204,205,206,207,208,209,210,211,212,213,214,215,216,217,218,219,220,221,222,223,224,225,226,227,228,229,230,231,232,233,234]) (gC 235 (gS (gR al.r52 []) .ret) .skip))) (gR al.r50 [193,194]))))))) (gR al.r47 [189,190]))))))))) (gR al.r41 [147,148]))))))) (gR al.r38 [143,144])))))) (gS (gR al.r53 []) .ret))))
abbrev al:=gF 1 [.tmp 2] al.body
abbrev bD.r0:=[oN 1 (.box false ac (.s 0)),pN 2 ac,pN 3 tK3,oC 4 0]
abbrev bD.r1:=[oA 10 22 [(.s 1)],oM 5 10]
abbrev bD.r2:=[oM 11 5,oI 12 .neq 11 0]
abbrev bD.r3:=[oN 13 (.build ac []),oN 14 (.build tK3 []),oM 15 5,oS ac 2 13,oS tK3 3 14,oM 4 15]
abbrev bD.r4:=[pN 6 tK3]
abbrev bD.r5:=[oC 7 0]
abbrev bD.r6:=[oM 16 7,oI 17 .lss 16 8]
abbrev bD.r7:=[oM 18 7,oI 19 .add 18 1,oM 7 19]
abbrev bD.r8:=[oM 20 7,oA 21 16 [(.s 1),(.s 20)],oM 8 21]
abbrev bD.r9:=[oM 22 7,oE 23 ac 0 aK 1,oJ 24 8 aj 23 22,oE 25 aj 0 tB 24,oL 26 tB 25,pU 27 26,oM 28 27,oF 29 7 28,zE 30 ac 0 aK 1 28,oH 31 (.idx 8 aj (.s 30) (.s 29)) 28,zE 32 aj 2 tI 31 28,zL 33 tI 32 28,oF 34 8 28,oH 35 (.bin .eql (.s 33) (.s 34)) 28,oF 36 35 28,oT 37 8 36,oG 38 (.bin .gtr (.s 37) (qI 0)) 36,oH 39 (.pick (.s 36) (.s 38) qF) 28,oO 40 28 39]
abbrev bD.r10:=[oM 41 8,oI 42 .eql 41 0]
abbrev bD.r11:=[oM 43 7,oA 44 13 [],oE 45 ac 0 aK 1,oJ 46 8 aj 45 43,oS aj 46 44]
abbrev bD.r12:=[oN 47 (.idx 3 tI (.s 6) (qI 0)),oL 48 tI 47,oI 49 .add 48 1,oN 50 (.idx 3 tI (.s 6) (qI 0)),oS tI 50 49]
abbrev bD.r13:=[oM 51 7,oM 52 8,oE 53 ac 0 aK 1,oJ 54 8 aj 53 51,oE 55 aj 2 tI 54,oS tI 55 52]
abbrev bD.r14:=[oN 56 (.idx 3 tI (.s 6) (qI 1)),oL 57 tI 56,oI 58 .add 57 1,oN 59 (.idx 3 tI (.s 6) (qI 1)),oS tI 59 58]
abbrev bD.r15:=[oC 9 0]
abbrev bD.r16:=[oM 60 9,oI 61 .lss 60 9]
abbrev bD.r17:=[oM 62 9,oI 63 .add 62 1,oM 9 63]
abbrev bD.r18:=[oM 64 9,oA 65 18 [(.s 1),(.s 64)],pU 66 65,oM 67 66,oT 68 9 67,pE 69 ac 2 dD 1 67,pJ 70 9 cf 69 68 67,pE 71 cf 0 tI 70 67,pL 72 tI 71 67,oG 73 (.bin .neq (.s 72) (qI 0)) 67,oT 74 73 67,oF 75 9 74,zE 76 ac 2 dD 1 74,oH 77 (.idx 9 cf (.s 76) (.s 75)) 74,zE 78 cf 1 tS 77 74,zL 79 tS 78 74,oH 80 (.bin .neq (.s 79) (qS #[])) 74,oG 81 (.pick (.s 74) qT (.s 80)) 67,oQ 82 67 81]
abbrev bD.r19:=[oM 83 9,oN 84 (.build cf []),oE 85 ac 2 dD 1,oJ 86 9 cf 85 83,oS cf 86 84]
abbrev bD.r20:=[oN 87 (.idx 3 tI (.s 6) (qI 2)),oL 88 tI 87,oI 89 .add 88 1,oN 90 (.idx 3 tI (.s 6) (qI 2)),oS tI 90 89]
abbrev bD.r21:=[oL 91 ac 1,oN 92 (.load false (some 6) tK3 (.s 6)),oU (.store ac [6] (.s 2) (.s 91)),oS tK3 3 92,oC 4 0]
abbrev bD.body:=gS (gR bD.r0 [0,4]) (gS (gS (gR bD.r1 [10]) (gS (gR bD.r2 [11]) (gC 12 (gS (gR bD.r3 [5,13,14,15]) .ret) .skip))) (gS (gR bD.r4 []) (gS (gS (gR bD.r5 []) (.block 0 (.loop [1,2,3,6,7] [1,2,3,6] (gS (gS (gR bD.r6 [16]) (gC 17 .skip (.exit 0))) (gS (.block 1 (gS (gR bD.r8 [20,21]) (gS (gS (gR bD.r9 [22,23,24,25,26,27,28,29,30,31,32,33,34,35,36,37,38,39]) (gC 40 (.exit 1) .skip)) (gS (gR bD.r10 [41]) (gC 42 (gS (gR bD.r11 [43,44,45,46]) (gR bD.r12 [47,48,49,50])) (gS (gR bD.r13 [8,51,52,53,54,55]) (gR bD.r14 [56,57,58,59]))))))) (gR bD.r7 [18,19])))))) (gS (gS (gR bD.r15 []) (.block 2 (.loop [1,2,3,6,9] [1,2,3,6] (gS (gS (gR bD.r16 [60]) (gC 61 .skip (.exit 2))) (gS (.block 3 (gS (gR bD.r18 [64,65,66,67,68,69,70,71,72,73,74,75,76,77,78,79,80,81]) (gC 82 (gS (gR bD.r19 [83,84,85,86]) (gR bD.r20 [87,88,89,90])) .skip))) (gR bD.r17 [62,63])))))) (gS (gT bD.r21 [1,6,91,92]) .ret)))))
abbrev bD:=gF 1 [.cell 2 ac,.cell 3 tK3,.tmp 4] bD.body
abbrev aN.r0:=[oN 1 (.box false ac (.s 0)),pN 2 ac,pN 3 cS,oC 4 0]
abbrev aN.r1:=[oA 11 21 [(.s 1)],oM 5 11]
abbrev aN.r2:=[oM 12 5,oI 13 .neq 12 0]
abbrev aN.r3:=[oN 14 (.build ac []),oN 15 (.build cS []),oM 16 5,oS ac 2 14,oS cS 3 15,oM 4 16]
abbrev aN.r4:=[pN 6 cS]
abbrev aN.r5:=[oC 17 0]
abbrev aN.r6:=[oI 18 .lss 17 8]
abbrev aN.r7:=[oM 19 17,oM 7 19]
abbrev aN.r8:=[oM 20 7,oE 21 ac 0 aK 1,oJ 22 8 aj 21 20,oM 8 22]
abbrev aN.r9:=[oM 23 7,oA 24 12 [(.s 1),(.s 23)],oM 9 24]
abbrev aN.r10:=[oM 26 8,oK 27 26,oE 28 aj 0 tB 27,oL 29 tB 28,pU 30 29,oM 25 30]
abbrev aN.r11:=[oM 32 9,oI 33 .eql 32 0,oM 31 33]
abbrev aN.r12:=[oM 34 8,oA 35 33 [],oK 36 34,oS aj 36 35]
abbrev aN.r13:=[oE 37 cS 0 tI 6,oL 38 tI 37,oI 39 .add 38 1,oE 40 cS 0 tI 6,oS tI 40 39]
abbrev aN.r14:=[oM 42 8,oK 43 42,oE 44 aj 2 tI 43,oL 45 tI 44,oM 46 9,oB 47 .neq 45 46,oM 41 47]
abbrev aN.r15:=[oM 48 8,oM 49 9,oK 50 48,oE 51 aj 2 tI 50,oS tI 51 49]
abbrev aN.r16:=[oE 52 cS 1 tI 6,oL 53 tI 52,oI 54 .add 53 1,oE 55 cS 1 tI 6,oS tI 55 54]
abbrev aN.r17:=[oI 56 .add 17 1,oM 17 56]
abbrev aN.r18:=[oC 57 0]
abbrev aN.r19:=[oI 58 .lss 57 9]
abbrev aN.r20:=[oM 59 57,oM 10 59]
abbrev aN.r21:=[oM 60 10,oE 61 ac 2 dD 1,oJ 62 9 cf 61 60,oL 63 cf 62,oN 64 (.build cf []),oN 65 (.eq true cf (.s 63) (.s 64)),oM 66 65,oT 67 10 66,oG 68 (.call false [] 17 [(.s 1),(.s 67)]) 66,oG 69 (.un .not (.s 68)) 66,oQ 70 66 69]
abbrev aN.r22:=[oM 71 10,oN 72 (.build cf []),oE 73 ac 2 dD 1,oJ 74 9 cf 73 71,oS cf 74 72]
abbrev aN.r23:=[oE 75 cS 2 tI 6,oL 76 tI 75,oI 77 .add 76 1,oE 78 cS 2 tI 6,oS tI 78 77]
abbrev aN.r24:=[oI 79 .add 57 1,oM 57 79]
abbrev aN.r25:=[oL 80 ac 1,oN 81 (.load false (some 6) cS (.s 6)),oU (.store ac [6] (.s 2) (.s 80)),oS cS 3 81,oC 4 0]
abbrev aN.body:=gS (gR aN.r0 [0,4]) (gS (gS (gR aN.r1 [11]) (gS (gR aN.r2 [12]) (gC 13 (gS (gR aN.r3 [5,14,15,16]) .ret) .skip))) (gS (gR aN.r4 []) (gS (gS (gR aN.r5 []) (.block 0 (.loop [1,2,3,6,17] [1,2,3,6] (gS (gR aN.r6 []) (gS (gC 18 .skip (.exit 0)) (gS (.block 1 (gS (gR aN.r7 [19]) (gS (gR aN.r8 [20,21,22]) (gS (gR aN.r9 [7,23,24]) (.block 2 (gS (gR aN.r10 [26,27,28,29,30]) (gC 25 .skip (gS (gR aN.r11 [32,33]) (gC 31 (gS (gR aN.r12 [8,34,35,36]) (gR aN.r13 [37,38,39,40])) (gS (gR aN.r14 [42,43,44,45,46,47]) (gC 41 (gS (gR aN.r15 [8,9,48,49,50,51]) (gR aN.r16 [52,53,54,55])) .skip))))))))))) (gR aN.r17 [56]))))))) (gS (gS (gR aN.r18 []) (.block 3 (.loop [1,2,3,6,57] [1,2,3,6] (gS (gR aN.r19 []) (gS (gC 58 .skip (.exit 3)) (gS (.block 4 (gS (gR aN.r20 [59]) (gS (gR aN.r21 [60,61,62,63,64,65,66,67,68,69]) (gC 70 (gS (gR aN.r22 [10,71,72,73,74]) (gR aN.r23 [75,76,77,78])) .skip)))) (gR aN.r24 [79]))))))) (gS (gT aN.r25 [1,6,80,81]) .ret)))))
abbrev aN:=gF 1 [.cell 2 ac,.cell 3 cS,.tmp 4] aN.body
abbrev eI.r0:=[pN 0 ac]
abbrev eI.r1:=[oN 3 (.build ac []),pN 1 ac,oS ac 1 3]
abbrev eI.r2:=[oC 2 0]
abbrev eI.r3:=[oM 4 2,oI 5 .lss 4 8]
abbrev eI.r4:=[oM 6 2,oI 7 .add 6 1,oM 2 7]
abbrev eI.r5:=[oM 8 2,oA 9 13 [],oE 10 ac 0 aK 1,oJ 11 8 aj 10 8,oS aj 11 9]
abbrev eI.r6:=[oL 12 ac 1,oS ac 0 12]
abbrev eI.body:=gS (gR eI.r0 []) (gS (gR eI.r1 [3]) (gS (gS (gR eI.r2 []) (.block 0 (.loop [0,1,2] [0,1] (gS (gS (gR eI.r3 [4]) (gC 5 .skip (.exit 0))) (gS (.block 1 (gR eI.r5 [8,9,10,11])) (gR eI.r4 [6,7])))))) (gS (gR eI.r6 [1,12]) .ret)))
abbrev eI:=gF 0 [.cell 0 ac] eI.body
abbrev jx.r0:=[pC 8 qF]
abbrev jx.r1:=[oM 9 0,oM 10 1,oM 11 2,oK 12 9,oE 13 ac 1 cI 12,oJ 14 3 dC 13 10,oJ 15 4 aq 14 11,oE 16 aq 0 tS 15,oL 17 tS 16,pV 18 .neq 17 (qS #[]),oM 19 18,oT 20 0 19,oT 21 1 19,oT 22 2 19,pK 23 20 19,pE 24 ac 1 cI 23 19,pJ 25 3 dC 24 21 19,pJ 26 4 aq 25 22 19,pE 27 aq 1 tI 26 19,pL 28 tI 27 19,oT 29 3 19,pB 30 .eql 28 29 19,oQ 31 19 30,oM 8 31]
abbrev jx.body:=gS (gR jx.r0 [8]) (gS (gR jx.r1 [0,1,2,3,9,10,11,12,13,14,15,16,17,18,19,20,21,22,23,24,25,26,27,28,29,30,31]) .ret)
abbrev jx:=gF 4 [.tmp 8] jx.body
abbrev cC.r0:=[oC 8 0]
abbrev cC.r1:=[oM 12 0,oM 13 2,oK 14 12,oE 15 ac 0 aK 14,oJ 16 8 aj 15 13,oL 17 aj 16,oM 18 1,oM 19 2,oK 20 18,oE 21 ac 0 aK 20,oJ 22 8 aj 21 19,oN 23 (.load false (some 1) aj (.s 22)),pN 9 aj,pN 10 aj,oU (.store aj [1] (.s 9) (.s 17)),oS aj 10 23]
abbrev cC.r2:=[oM 24 3,oE 25 aj 3 cH 9,oJ 26 2 tI 25 24,oL 27 tI 26,oM 11 27]
abbrev cC.r3:=[oM 28 11,oI 29 .lss 28 0,oM 30 29,oF 31 11 30,zB 32 .geq 31 9 30,oO 33 30 32]
abbrev cC.r4:=[pC 8 (qI (-1))]
abbrev cC.r5:=[oM 34 1,oM 35 11,oK 36 34,oE 37 ac 2 dD 36,oJ 38 9 cf 37 35,oE 39 cf 0 tI 38,oL 40 tI 39,oE 41 aj 1 tI 9,oL 42 tI 41,oB 43 .eql 40 42]
abbrev cC.r6:=[oM 44 11,oM 8 44]
abbrev cC.r7:=[oE 45 aj 0 tB 10,oL 46 tB 45,oM 47 46,pE 48 aj 1 tI 10 47,pL 49 tI 48 47,pE 50 aj 1 tI 9 47,pL 51 tI 50 47,pB 52 .eql 49 51 47,oQ 53 47 52]
abbrev cC.r8:=[oM 54 3,oE 55 aj 3 cH 10,oJ 56 2 tI 55 54,oL 57 tI 56,oM 8 57]
abbrev cC.r9:=[pC 8 (qI (-1))]
abbrev cC.body:=gS (gR cC.r0 [8]) (gS (gT cC.r1 [0,2,12,13,14,15,16,17,18,19,20,21,22,23]) (gS (gR cC.r2 [24,25,26,27]) (gS (gS (gR cC.r3 [28,29,30,31,32]) (gC 33 (gS (gR cC.r4 []) .ret) .skip)) (gS (gS (gT cC.r5 [1,34,35,36,37,38,39,40,41,42]) (gC 43 (gS (gR cC.r6 [11,44]) .ret) .skip)) (gS (gS (gR cC.r7 [9,45,46,47,48,49,50,51,52]) (gC 53 (gS (gR cC.r8 [3,10,54,55,56,57]) .ret) .skip)) (gS (gR cC.r9 []) .ret))))))
abbrev cC:=gF 4 [.tmp 8] cC.body
abbrev cK.r0:=[pN 0 aj]
abbrev cK.r1:=[oN 3 (.build aj []),pN 1 aj,oS aj 1 3]
abbrev cK.r2:=[oC 4 0]
abbrev cK.r3:=[oI 5 .lss 4 2]
abbrev cK.r4:=[oM 6 4,oM 2 6]
abbrev cK.r5:=[oM 7 2,oE 8 aj 3 cH 1,oJ 9 2 tI 8 7,oU (.store tI [] (.s 9) (qI (-1)))]
abbrev cK.r6:=[oI 10 .add 4 1,oM 4 10]
abbrev cK.r7:=[oL 11 aj 1,oS aj 0 11]
abbrev cK.body:=gS (gR cK.r0 []) (gS (gR cK.r1 [3]) (gS (gS (gR cK.r2 []) (.block 0 (.loop [0,1,4] [0,1] (gS (gR cK.r3 []) (gS (gC 5 .skip (.exit 0)) (gS (.block 1 (gS (gR cK.r4 [6]) (gR cK.r5 [2,7,8,9]))) (gR cK.r6 [10]))))))) (gS (gR cK.r7 [1,11]) .ret)))
abbrev cK:=gF 0 [.cell 0 aj] cK.body
abbrev cU.r0:=[pN 0 ac]
abbrev cU.r1:=[oN 3 (.build ac []),pN 1 ac,oS ac 1 3]
abbrev cU.r2:=[oC 4 0]
abbrev cU.r3:=[oI 5 .lss 4 8]
abbrev cU.r4:=[oM 6 4,oM 2 6]
abbrev cU.r5:=[oM 7 2,oA 8 33 [],oE 9 ac 0 aK 1,oJ 10 8 aj 9 7,oS aj 10 8]
abbrev cU.r6:=[oI 11 .add 4 1,oM 4 11]
abbrev cU.r7:=[oL 12 ac 1,oS ac 0 12]
abbrev cU.body:=gS (gR cU.r0 []) (gS (gR cU.r1 [3]) (gS (gS (gR cU.r2 []) (.block 0 (.loop [0,1,4] [0,1] (gS (gR cU.r3 []) (gS (gC 5 .skip (.exit 0)) (gS (.block 1 (gS (gR cU.r4 [6]) (gR cU.r5 [2,7,8,9,10]))) (gR cU.r6 [11]))))))) (gS (gR cU.r7 [1,12]) .ret)))
abbrev cU:=gF 0 [.cell 0 ac] cU.body
abbrev aP.r0:=[pC 2 qF]
abbrev aP.r1:=[pC 3 (.c .nilsl),pC 4 (.c .nilsl)]
abbrev aP.r2:=[oM 9 0,oK 10 9,oE 11 ac 0 aK 10,oL 12 aK 11,oC 13 0]
abbrev aP.r3:=[oI 14 .lss 13 8]
abbrev aP.r4:=[oN 15 (.aidx 8 aj (.s 12) (.s 13)),pN 6 aj,oS aj 6 15]
abbrev aP.r5:=[oE 16 aj 0 tB 6,oL 17 tB 16,pU 18 17]
abbrev aP.r6:=[oM 19 4,oE 20 aj 1 tI 6,oL 21 tI 20,oA 22 38 [(.s 19),(.s 21)]]
abbrev aP.r7:=[pC 2 qT]
abbrev aP.r8:=[oM 23 4,oE 24 aj 1 tI 6,oL 25 tI 24,oN 26 (.bslice false tI 1 [(0,(.s 25))]),oN 27 (.append false [] tI (.s 23) (.s 26)),oM 4 27]
abbrev aP.r9:=[oE 28 aj 3 cH 6,oL 29 cH 28,oC 30 0]
abbrev aP.r10:=[oI 31 .lss 30 2]
abbrev aP.r11:=[oN 32 (.aidx 2 tI (.s 29) (.s 30)),oM 8 32]
abbrev aP.r12:=[oM 33 8,oI 34 .geq 33 0,oM 35 34,oT 36 3 35,oT 37 8 35,oG 38 (.call false [] 38 [(.s 36),(.s 37)]) 35,oQ 39 35 38]
abbrev aP.r13:=[pC 2 qT]
abbrev aP.r14:=[oM 40 3,oM 41 8,oN 42 (.bslice false tI 1 [(0,(.s 41))]),oN 43 (.append false [] tI (.s 40) (.s 42)),oM 3 43]
abbrev aP.r15:=[oI 44 .add 30 1,oM 30 44]
abbrev aP.r16:=[oI 45 .add 13 1,oM 13 45]
abbrev aP.r17:=[pC 2 qF]
abbrev aP.body:=gS (gR aP.r0 [2]) (gS (gR aP.r1 []) (gS (gS (gR aP.r2 [0,9,10,11]) (.block 0 (.loop [3,4,12,13] [27,43] (gS (gR aP.r3 []) (gS (gC 14 .skip (.exit 0)) (gS (.block 1 (gS (gR aP.r4 [15]) (gS (gS (gR aP.r5 [16,17]) (gC 18 (.exit 1) .skip)) (gS (gS (gR aP.r6 [19,20,21]) (gC 22 (gS (gR aP.r7 []) .ret) .skip)) (gS (gR aP.r8 [23,24,25,26,27]) (gS (gR aP.r9 [6,28]) (.block 2 (.loop [3,4,12,13,29,30] [27,43] (gS (gR aP.r10 []) (gS (gC 31 .skip (.exit 2)) (gS (.block 3 (gS (gR aP.r11 [32]) (gS (gS (gR aP.r12 [33,34,35,36,37,38]) (gC 39 (gS (gR aP.r13 []) .ret) .skip)) (gR aP.r14 [8,40,41,42,43])))) (gR aP.r15 [44])))))))))))) (gR aP.r16 [45]))))))) (gS (gR aP.r17 []) .ret)))
abbrev aP:=gF 1 [.tmp 2] aP.body
abbrev aW.r0:=[oC 4 0]
abbrev aW.r1:=[oM 8 0,oM 9 1,oK 10 8,oE 11 ac 0 aK 10,oJ 12 8 aj 11 9,oL 13 aj 12,pN 5 aj,oS aj 5 13]
abbrev aW.r2:=[oE 14 aj 0 tB 5,oL 15 tB 14,pU 16 15]
abbrev aW.r3:=[oL 17 aj 5,oN 18 (.call true [] 33 []),oN 19 (.eq true aj (.s 17) (.s 18))]
abbrev aW.r4:=[oC 4 12]
abbrev aW.r5:=[oC 4 0]
abbrev aW.r6:=[oE 20 aj 1 tI 5,oL 21 tI 20,oI 22 .lss 21 1,oM 23 22,zE 24 aj 2 tI 5 23,zL 25 tI 24 23,oF 26 0 23,oF 27 1 23,oH 28 (.call true [] 12 [(.s 26),(.s 27)]) 23,oH 29 (.bin .lss (.s 25) (.s 28)) 23,oO 30 23 29]
abbrev aW.r7:=[oC 4 9]
abbrev aW.r8:=[oE 31 aj 3 cH 5,oL 32 cH 31,oC 33 0]
abbrev aW.r9:=[oI 34 .lss 33 2]
abbrev aW.r10:=[oN 35 (.aidx 2 tI (.s 32) (.s 33)),oM 7 35]
abbrev aW.r11:=[oM 37 7,oI 38 .lss 37 (-1),oM 39 38,oF 40 7 39,zB 41 .geq 40 9 39,oO 42 39 41,oM 36 42]
abbrev aW.r12:=[oC 4 1]
abbrev aW.r13:=[oM 44 7,oI 45 .geq 44 0,oM 46 45,oT 47 0 46,oT 48 7 46,pK 49 47 46,pE 50 ac 2 dD 49 46,pJ 51 9 cf 50 48 46,pE 52 cf 0 tI 51 46,pL 53 tI 52 46,pE 54 aj 1 tI 5 46,pL 55 tI 54 46,pB 56 .neq 53 55 46,oQ 57 46 56,oM 43 57]
abbrev aW.r14:=[oC 4 10]
abbrev aW.r15:=[oI 58 .add 33 1,oM 33 58]
abbrev aW.r16:=[oC 4 0]
abbrev aW.body:=gS (gR aW.r0 [4]) (gS (gR aW.r1 [8,9,10,11,12,13]) (gS (gS (gR aW.r2 [14,15]) (gC 16 (gS (gS (gT aW.r3 [5,17,18]) (gC 19 (gS (gR aW.r4 []) .ret) .skip)) (gS (gR aW.r5 []) .ret)) .skip)) (gS (gS (gT aW.r6 [1,20,21,22,23,24,25,26,27,28,29]) (gC 30 (gS (gR aW.r7 []) .ret) .skip)) (gS (gS (gR aW.r8 [31]) (.block 0 (.loop [0,5,32,33] [5] (gS (gR aW.r9 []) (gS (gC 34 .skip (.exit 0)) (gS (.block 1 (gS (gR aW.r10 [35]) (.block 2 (gS (gR aW.r11 [37,38,39,40,41,42]) (gC 36 (gS (gR aW.r12 []) .ret) (gS (gT aW.r13 [7,44,45,46,47,48,49,50,51,52,53,54,55,56,57]) (gC 43 (gS (gR aW.r14 []) .ret) .skip))))))) (gR aW.r15 [58]))))))) (gS (gR aW.r16 []) .ret)))))
abbrev aW:=gF 2 [.tmp 4] aW.body
abbrev aM.r0:=[oC 6 0]
abbrev aM.r1:=[oM 10 0,oM 11 1,oM 12 2,oK 13 10,oE 14 ac 1 cI 13,oJ 15 3 dC 14 11,oJ 16 4 aq 15 12,oL 17 aq 16,pN 7 aq,oS aq 7 17]
abbrev aM.r2:=[oE 18 aq 0 tS 7,oL 19 tS 18,pV 20 .eql 19 (qS #[])]
abbrev aM.r3:=[oL 21 aq 7,oN 22 (.build aq []),oN 23 (.eq true aq (.s 21) (.s 22))]
abbrev aM.r4:=[oC 6 12]
abbrev aM.r5:=[oC 6 0]
abbrev aM.r6:=[oE 24 aq 0 tS 7,oL 25 tS 24,oA 26 14 [(.s 25)],pU 27 26]
abbrev aM.r7:=[oC 6 2]
abbrev aM.r8:=[oM 28 2,oC 29 0]
abbrev aM.r9:=[oB 30 .lss 29 28]
abbrev aM.r10:=[oM 31 29,oM 8 31]
abbrev aM.r11:=[oM 32 0,oM 33 1,oM 34 8,oK 35 32,oE 36 ac 1 cI 35,oJ 37 3 dC 36 33,oJ 38 4 aq 37 34,oE 39 aq 0 tS 38,oL 40 tS 39,oE 41 aq 0 tS 7,oL 42 tS 41,oB 43 .eql 40 42]
abbrev aM.r12:=[oC 6 4]
abbrev aM.r13:=[oI 44 .add 29 1,oM 29 44]
abbrev aM.r14:=[oE 45 aq 1 tI 7,oL 46 tI 45,oI 47 .lss 46 0,oM 48 47,zE 49 aq 1 tI 7 48,zL 50 tI 49 48,zB 51 .geq 50 8 48,oO 52 48 51]
abbrev aM.r15:=[oC 6 1]
abbrev aM.r16:=[oM 53 0,oE 54 aq 1 tI 7,oL 55 tI 54,oK 56 53,oE 57 ac 0 aK 56,oJ 58 8 aj 57 55,oL 59 aj 58,pN 9 aj,oS aj 9 59]
abbrev aM.r17:=[oE 60 aj 0 tB 9,oL 61 tB 60,pU 62 61,oM 63 62,zE 64 aj 1 tI 9 63,zL 65 tI 64 63,zE 66 aq 2 tI 7 63,zL 67 tI 66 63,oH 68 (.bin .neq (.s 65) (.s 67)) 63,oO 69 63 68]
abbrev aM.r18:=[oC 6 8]
abbrev aM.r19:=[oC 6 0]
abbrev aM.body:=gS (gR aM.r0 [6]) (gS (gR aM.r1 [10,11,12,13,14,15,16,17]) (gS (gS (gR aM.r2 [18,19]) (gC 20 (gS (gS (gR aM.r3 [7,21,22]) (gC 23 (gS (gR aM.r4 []) .ret) .skip)) (gS (gR aM.r5 []) .ret)) .skip)) (gS (gS (gR aM.r6 [24,25,26]) (gC 27 (gS (gR aM.r7 []) .ret) .skip)) (gS (gS (gR aM.r8 [2]) (.block 0 (.loop [0,1,7,28,29] [7] (gS (gR aM.r9 []) (gS (gC 30 .skip (.exit 0)) (gS (.block 1 (gS (gR aM.r10 [31]) (gS (gT aM.r11 [8,32,33,34,35,36,37,38,39,40,41,42]) (gC 43 (gS (gR aM.r12 []) .ret) .skip)))) (gR aM.r13 [44]))))))) (gS (gS (gR aM.r14 [45,46,47,48,49,50,51]) (gC 52 (gS (gR aM.r15 []) .ret) .skip)) (gS (gS (gT aM.r16 [0,53,54,55,56,57,58,59]) (gS (gR aM.r17 [7,9,60,61,62,63,64,65,66,67,68]) (gC 69 (gS (gR aM.r18 []) .ret) .skip))) (gS (gR aM.r19 []) .ret)))))))
abbrev aM:=gF 3 [.tmp 6] aM.body
abbrev dS.r0:=[pC 4 qF]
abbrev dS.r1:=[oM 5 0,oM 6 1,oA 7 39 [(.s 5),(.s 6)],oI 8 .geq 7 0,oM 4 8]
abbrev dS.body:=gS (gR dS.r0 [4]) (gS (gR dS.r1 [0,1,5,6,7,8]) .ret)
abbrev dS:=gF 2 [.tmp 4] dS.body
abbrev b6.r0:=[oC 4 0]
abbrev b6.r1:=[oM 6 0,oY 7 6,oC 8 0]
abbrev b6.r2:=[oB 9 .lss 8 7]
abbrev b6.r3:=[oM 10 8,oM 5 10]
abbrev b6.r4:=[oM 11 1,oM 12 0,oM 13 5,oX 14 tI 12 13,oL 15 tI 14,oB 16 .eql 11 15]
abbrev b6.r5:=[oM 17 5,oM 4 17]
abbrev b6.r6:=[oI 18 .add 8 1,oM 8 18]
abbrev b6.r7:=[pC 4 (qI (-1))]
abbrev b6.body:=gS (gR b6.r0 [4]) (gS (gS (gR b6.r1 [6]) (.block 0 (.loop [0,1,7,8] [7] (gS (gR b6.r2 []) (gS (gC 9 .skip (.exit 0)) (gS (.block 1 (gS (gR b6.r3 [10]) (gS (gR b6.r4 [11,12,13,14,15]) (gC 16 (gS (gR b6.r5 [5,17]) .ret) .skip)))) (gR b6.r6 [18]))))))) (gS (gR b6.r7 []) .ret))
abbrev b6:=gF 2 [.tmp 4] b6.body
end Fn
def Dq:List (Option MFun):=[some Fn.bL,some Fn.dY,some Fn.bC,some Fn.bq,some Fn.bM,some Fn.bU,some Fn.be,some Fn.ct,some Fn.bG,some Fn.aY,none,none,some Fn.bP,some Fn.fI,some Fn.cB,some Fn.cX,some Fn.dw,some Fn.cp,some Fn.d9,some Fn.b8,some Fn.dj,some Fn.aG,some Fn.al,none,none,none,some Fn.bD,some Fn.aN,none,none,some Fn.eI,some Fn.jx,some Fn.cC,some Fn.cK,some Fn.cU,some Fn.aP,some Fn.aW,some Fn.aM,some Fn.dS,some Fn.b6,none,none,none,none,none,none,none,none,none,none,none,none,none,none,none,none,none,none,none,none,none,none,none,none,none,none,none,none,none,none,none,none,none,none,none,none,none,none,none,none,none,none,none,none,none,none,none,none,none,none,none,none,none,none,none,none,none,none,none,none,none,none,none,none,none,none,none,none,none,none,none,none,none,none,none,none,none,none,none,none,none,none,none,none,none,none,none,none,none,none,none,none,none,none,none,none,none,none,none,none,none,none,none,none,none,none,none,none,none,none,none,none,none,none,none,none,none,none,none,none,none,none,none,none,none,none,none,none,none,none,none,none,none,none,none,none,none,none,none,none,none,none,none,none,none,none,none,none,none,none,none]
def tbl(f:Nat):Option MFun:=Dq.getD f none
def onO{α:Type}(o:Option α)(f:α->Prop):Prop:=match o with|some a=>f a|none=>False
variable{α:Type}
@[go_sem] theorem cE(a:α)(f:α->Prop):onO (some a) f=f a:=rfl
@[go_sem] theorem Kk(f:α->Prop):onO none f=False:=rfl
variable{a p:List Nat}{b:Bool}{c e:MC}{d:Option Nat}{i j l n:Nat}{o:MK}{s:St}{t ty:Ty}{v:AV}{x y:Opd}
section
variable{T:MTb}{cx:Cx}{k:List Item}{kill:List Nat}{r:List MOp}{sl:Slots}{own:Own}{h:HP}{Q:St->Prop}
def W1(T:MTb)(cx:Cx)(o:Option AV)(d:Option Nat)(r:List MOp)(kill:List Nat)(k:List Item)(s:St)(Q:St->Prop):Prop:=onO o fun v=>W T cx (.ops r kill::k) (s.setd d v) Q
@[go_sem] theorem NI:W1 T cx (some v) d r kill k s Q=W T cx (.ops r kill::k) (s.setd d v) Q:=rfl
@[go_sem] theorem NJ:W1 T cx none d r kill k s Q=False:=rfl
def W2(T:MTb)(cx:Cx)(o:Option St)(r:List MOp)(kill:List Nat)(k:List Item)(Q:St->Prop):Prop:=onO o fun s'=>W T cx (.ops r kill::k) s' Q
@[go_sem] theorem NG:W2 T cx (some s) r kill k Q=W T cx (.ops r kill::k) s Q:=rfl
@[go_sem] theorem NH:W2 T cx none r kill k Q=False:=rfl
def WX(T:MTb)(cx:Cx)(o:Option (List Item))(s:St)(Q:St->Prop):Prop:=onO o fun k'=>W T cx k' s Q
@[go_sem] theorem Nz:WX T cx (some k) s Q=W T cx k s Q:=rfl
@[go_sem] theorem NA:WX T cx none s Q=False:=rfl
theorem W_iff{s1:St}{k k1:List Item}(hn:next T cx k s=.go k1 s1):W T cx k s Q=W T cx k1 s1 Q:=by
 apply propext
 constructor
 ·rintro⟨n,s',hr,hq⟩
  cases n with
  |zero=>simp[run]at hr
  |succ n=>rw[run,hn]at hr;exact⟨n,s',hr,hq⟩
 ·exact G3 hn
theorem W_fail{k:List Item}(hn:next T cx k s=.fail):W T cx k s Q=False:=by
 apply propext
 constructor
 ·rintro⟨n,s',hr,hq⟩
  cases n with
  |zero=>simp[run]at hr
  |succ n=>rw[run,hn]at hr;simp at hr
 ·exact False.elim
theorem rJ{s1:St}{k:List Item}(hn:next T cx k s=.done s1):W T cx k s Q=Q s1:=by
 apply propext
 constructor
 ·rintro⟨n,s',hr,hq⟩
  cases n with
  |zero=>simp[run]at hr
  |succ n=>rw[run,hn]at hr;simp at hr;subst hr;exact hq
 ·exact G4 hn
@[congr] theorem Nu{s':St}{k:List Item}(hs:s=s'):W T cx k s Q=W T cx k s' Q:=by rw[hs]
@[go_sem] theorem Po:W T cx [] s Q=Q s:=rJ rfl
@[go_sem] theorem Jg:W T cx (.inBlock i::k) s Q=W T cx k s Q:=W_iff rfl
@[go_sem] theorem OK:W T cx (.code .skip::k) s Q=W T cx k s Q:=W_iff rfl
@[go_sem] theorem Pm{a b:MC}:W T cx (.code (.seq a b)::k) s Q=W T cx (.code a:: .code b::k) s Q:=W_iff rfl
@[go_sem] theorem Nx{b:MC}:W T cx (.code (.block i b)::k) s Q=W T cx (.code b:: .inBlock i::k) s Q:=W_iff rfl
@[go_sem] theorem Pn:W T cx (.code .ret::k) s Q=Q s:=rJ rfl
@[go_sem] theorem ON{ops:List MOp}:W T cx (.code (.reg false ops kill)::k) s Q=W T cx (.ops ops kill::k) s Q:=W_iff rfl
@[go_sem] theorem OS:W T cx (.code (.exit i)::k) s Q=WX T cx (exitTo i k) s Q:=by
 cases hk:exitTo i k with
 |none=>exact W_fail (by simp[next,hk])
 |some k'=>exact W_iff (by simp[next,hk])
@[go_sem] theorem Fk:exitTo j (.inBlock j::k)=some k:=by simp[exitTo]
@[go_sem] theorem D5:exitTo i (.inBlock j::k)=if j=i then some k else exitTo i k:=rfl
@[go_sem] theorem Fm:exitTo i (.code c::k)=exitTo i k:=rfl
@[go_sem] theorem GO{l:List MOp}:exitTo i (.ops l kill::k)=exitTo i k:=rfl
@[go_sem] theorem Fj{b:List Nat}:exitTo i (.inLoop a b c::k)=exitTo i k:=rfl
def bCond(v:AV)(A B:Prop):Prop:=match v with| .bool b=>if b=true then A else B|_=>False
def WC(T:MTb)(cx:Cx)(v:AV)(t e:MC)(k:List Item)(s:St)(Q:St->Prop):Prop:=bCond v (W T cx (.code t::k) s Q) (W T cx (.code e::k) s Q)
@[go_sem] theorem NB{t:MC}:WC T cx (.bool true) t e k s Q=W T cx (.code t::k) s Q:=rfl
@[go_sem] theorem LI{t:MC}:WC T cx (.bool false) t e k s Q=W T cx (.code e::k) s Q:=rfl
theorem dq{t:MC}(h1:b=true->W T cx (.code t::k) s Q)(h2:b=false->W T cx (.code e::k) s Q):WC T cx (.bool b) t e k s Q:=by
 cases b
 ·exact h2 rfl
 ·exact h1 rfl
@[go_sem] theorem OV{c:Opd}{t:MC}:W T cx (.code (.cond c t e)::k) s Q=WC T cx (s.opd c) t e k s Q:=by
 show _=bCond (s.opd c) (W T cx (.code t::k) s Q) (W T cx (.code e::k) s Q)
 cases hc:s.opd c with
 |bool b=>cases b<;>simp only[bCond]<;>exact W_iff (by simp[next,hc])
 |_=>exact W_fail (by simp[next,hc])
@[go_sem] theorem LD:W T cx (.ops [] kill::k) ⟨sl,own,h⟩ Q=W T cx k ⟨sl.without kill,own,h⟩ Q:=W_iff rfl
def BC(v:AV)(b:Bool)(A B:Prop):Prop:=match v with
 | .bool c=>if(c==b)=true then A else B
 | .tup .unit=>B
 |_=>False
def WG(T:MTb)(cx:Cx)(v:AV)(b:Bool)(d:Option Nat)(o:MK)(r:List MOp)(kill:List Nat)(k:List Item)(s:St)(Q:St->Prop):Prop:=
 BC v b (W T cx (.ops (⟨d,o,none⟩::r) kill::k) s Q) (W T cx (.ops r kill::k) (s.setd d .undef) Q)
@[go_sem] theorem Py:WG T cx (.bool true) true d o r kill k s Q=W T cx (.ops (⟨d,o,none⟩::r) kill::k) s Q:=rfl
@[go_sem] theorem PB:WG T cx (.bool false) false d o r kill k s Q=W T cx (.ops (⟨d,o,none⟩::r) kill::k) s Q:=rfl
@[go_sem] theorem Pz:WG T cx (.bool true) false d o r kill k s Q=W T cx (.ops r kill::k) (s.setd d .undef) Q:=rfl
@[go_sem] theorem PA:WG T cx (.bool false) true d o r kill k s Q=W T cx (.ops r kill::k) (s.setd d .undef) Q:=rfl
@[go_sem] theorem LH:WG T cx .undef b d o r kill k s Q=W T cx (.ops r kill::k) (s.setd d .undef) Q:=rfl
theorem fd{c:Bool}(h1:b=c->W T cx (.ops (⟨d,o,none⟩::r) kill::k) s Q)(h2:b=(!c)->W T cx (.ops r kill::k) (s.setd d .undef) Q):WG T cx (.bool b) c d o r kill k s Q:=by
 cases b<;>cases c
 ·exact h1 rfl
 ·exact h2 rfl
 ·exact h2 rfl
 ·exact h1 rfl
@[go_sem] theorem Nt{t:Nat}:W T cx (.ops (⟨d,o,some (t,b)⟩::r) kill::k) s Q=WG T cx (Slots.get s.sl t) b d o r kill k s Q:=by
 show _=BC (Slots.get s.sl t) b (W T cx (.ops (⟨d,o,none⟩::r) kill::k) s Q) (W T cx (.ops r kill::k) (s.setd d .undef) Q)
 have key:∀(o':MOp),o'.d=d->o'.k=o->s.wanted o'.g=some true->next T cx (.ops (o'::r) kill::k) s=opCmd T cx d o (.ops r kill::k) s:=by
  intro o' h1 h2 h3;subst h1;subst h2;simp[next,h3]
 have e:s.wanted (some (t,b))=some true->W T cx (.ops (⟨d,o,some (t,b)⟩::r) kill::k) s Q=W T cx (.ops (⟨d,o,none⟩::r) kill::k) s Q:=by
  intro hw
  have h1:=key ⟨d,o,some (t,b)⟩ rfl rfl hw
  have h2:=key ⟨d,o,none⟩ rfl rfl rfl
  apply propext
  constructor<;>rintro⟨n,s',hr,hq⟩<;>refine⟨n,s',?_,hq⟩<;>cases n<;>simp only[run]at hr⊢
  ·exact absurd hr (by simp)
  ·rw[h2];rw[h1]at hr;exact hr
  ·exact absurd hr (by simp)
  ·rw[h1];rw[h2]at hr;exact hr
 have e2:s.wanted (some (t,b))=some false->W T cx (.ops (⟨d,o,some (t,b)⟩::r) kill::k) s Q=W T cx (.ops r kill::k) (s.setd d .undef) Q:=by
  intro hw;exact W_iff (by simp[next,hw])
 have e3:s.wanted (some (t,b))=none->W T cx (.ops (⟨d,o,some (t,b)⟩::r) kill::k) s Q=False:=by
  intro hw;exact W_fail (by simp[next,hw])
 cases hv:Slots.get s.sl t with
 |bool c=>
  simp only[BC]
  split
  ·exact e (by simp_all[St.wanted])
  ·exact e2 (by simp_all[St.wanted])
 |tup v=>cases v with
  |unit=>exact e2 (by simp[St.wanted,hv])
  |_=>exact e3 (by simp[St.wanted,hv])
 |_=>exact e3 (by simp[St.wanted,hv])
def MK.isCallK:MK->Bool
 | .call ..=>true
 | .callv ..=>true
 |_=>false
theorem gW(hc:o.isCallK=false):W T cx (.ops (⟨d,o,none⟩::r) kill::k) s Q=
  onO (evOp cx d o s) fun p=>W T cx (.ops r kill::k) (p.2.setd d p.1) Q:=by
 have hn:next T cx (.ops (⟨d,o,none⟩::r) kill::k) s=match evOp cx d o s with
  |some (v,s')=>.go (.ops r kill::k) (s'.setd d v)
  |none=>.fail:=by
  simp only[next,St.wanted]
  cases o<;>first|rfl|simp[MK.isCallK]at hc
 cases he:evOp cx d o s with
 |none=>rw[he]at hn;exact W_fail hn
 |some p=>rw[he]at hn;exact W_iff hn
theorem gg(hc:o.isCallK=false){f:Option AV}(he:evK s.opd (s.look cx) o=f.map .val):W T cx (.ops (⟨d,o,none⟩::r) kill::k) s Q=
  onO f fun v=>W T cx (.ops r kill::k) (s.setd d v) Q:=by
 rw[gW hc,evOp,he]
 cases f<;>rfl
@[go_sem] theorem Pp:W T cx (.ops (⟨d,.mov x,none⟩::r) kill::k) s Q=W T cx (.ops r kill::k) (s.setd d (s.opd x)) Q:=
 gg (f:=some (s.opd x)) rfl rfl
def sG:AV->AV->AV->Option AV
 | .bool true,a,_=>some a
 | .bool false,_,b=>some b
 |_,_,_=>none
@[go_sem] theorem Mj(a b:AV):sG (.bool true) a b=some a:=rfl
@[go_sem] theorem Ml(a b:AV):sG (.bool false) a b=some b:=rfl
@[go_sem] theorem Kh(c x y:Bool):sG (.bool c) (.bool x) (.bool y)=some (.bool (if c=true then x else y)):=by cases c<;>rfl
@[go_sem] theorem OP{c:Opd}:W T cx (.ops (⟨d,.pick c x y,none⟩::r) kill::k) s Q=W1 T cx (sG (s.opd c) (s.opd x) (s.opd y)) d r kill k s Q:=
 gg rfl (by simp only[evK];split<;>simp_all[sG])
@[go_sem] theorem Px{op:BinOp}:W T cx (.ops (⟨d,.bin op x y,none⟩::r) kill::k) s Q=W1 T cx (lz op (s.opd x) (s.opd y)) d r kill k s Q:=
 gg rfl rfl
@[go_sem] theorem PH{op:UnOp}:W T cx (.ops (⟨d,.un op x,none⟩::r) kill::k) s Q=W1 T cx (z6 op (s.opd x)) d r kill k s Q:=
 gg rfl rfl
def eqV(t:Ty)(neg:Bool)(x y:AV):Option AV:=if t.eqOk x&&t.eqOk y then(x.eq y).map fun b=>.bool (if neg then !b else b)else none
@[go_sem] theorem PJ{neg:Bool}:W T cx (.ops (⟨d,.eq neg t x y,none⟩::r) kill::k) s Q=W1 T cx (eqV t neg (s.opd x) (s.opd y)) d r kill k s Q:=
 gg rfl (by simp only[evK,eqV];split<;>simp[Function.comp_def])
@[go_sem] theorem Ny{d:Nat}:W T cx (.ops (⟨some d,.alloc false t,none⟩::r) kill::k) ⟨sl,own,h⟩ Q=
  W T cx (.ops r kill::k) ⟨(Slots.forget sl (.stk cx.lvl d)).set d (.ptr (.stk cx.lvl d) [] t),own.set d ⟨t,t.zero⟩,h⟩ Q:=by
 rw[gW rfl];rfl
@[go_sem] theorem Pw{d:Nat}:W T cx (.ops (⟨some d,.box false t x,none⟩::r) kill::k) ⟨sl,own,h⟩ Q=
  (t.fits (St.opd ⟨sl,own,h⟩ x)=true/\W T cx (.ops r kill::k) ⟨(Slots.forget sl (.stk cx.lvl d)).set d (.ptr (.stk cx.lvl d) [] t),own.set d ⟨t,St.opd ⟨sl,own,h⟩ x⟩,h⟩ Q):=by
 rw[gW rfl,evOp]
 simp only[evK]
 by_cases h1:t.fits (St.opd ⟨sl,own,h⟩ x)=true
 ·simp only[h1,true_and,if_true];rfl
 ·simp only[h1,false_and,Bool.false_eq_true,if_false];rfl
@[go_sem] theorem Nv{ps:List (Nat×Opd)}:W T cx (.ops (⟨d,.build t ps,none⟩::r) kill::k) s Q=W1 T cx (fill t t.zero (ps.map fun p=>(p.1,s.opd p.2))) d r kill k s Q:=
 gg rfl rfl
def ldV(t:Ty)(x:AV)(R:Id->List Nat->Option AV):Option AV:=match x with
 | .ptr i p t'=>if t=t' then match R i p with|some v=>if t.fits v then some v else none|none=>none else none
 |_=>none
def uq(t:Ty):Option AV->Option AV|some v=>if t.fits v=true then some v else none|none=>none
@[go_sem] theorem Mr(t:Ty)(i:Id)(p:List Nat)(R:Id->List Nat->Option AV):ldV t (.ptr i p t) R=uq t (R i p):=by simp only[ldV,if_true,uq]
theorem zY(hv:t.fits v=true):uq t (some v)=some v:=by simp[uq,hv]
@[go_sem] theorem KG(s:ByteArray):uq (.leaf .str) (some (.str s))=some (.str s):=rfl
@[go_sem] theorem Iz(b:Bool):uq (.leaf .bool) (some (.bool b))=some (.bool b):=rfl
@[go_sem] theorem OQ:W T cx (.ops (⟨d,.load false none t x,none⟩::r) kill::k) s Q=W1 T cx (ldV t (s.opd x) (s.rd cx)) d r kill k s Q:=
 gg rfl (by
  simp only[evK]
  cases s.opd x<;>simp only[ldV,rooted,Bool.false_eq_true,false_implies,true_and,and_true,Option.map_none]<;>try rfl
  rename_i i p t'
  by_cases ht:t=t'
  ·simp only[ht,if_true,St.rd]
   cases(s.look cx i).bind fun b=>b.val.at p with
   |none=>rfl
   |some v=>by_cases hf:t'.fits v=true<;>simp[hf]
  ·simp only[ht,if_false,Option.map_none])
def vW(x v:AV):Bool:=match x with| .ptr i _ _=>v.into i|_=>false
@[go_sem] theorem Iq(i:Id)(p:List Nat)(t:Ty)(v:AV):vW (.ptr i p t) v=v.into i:=rfl
def rI(x v:AV):Bool:=match x with| .ptr i _ _=>v.apart i|_=>false
@[go_sem] theorem GY(i:Id)(p:List Nat)(t:Ty)(v:AV):rI (.ptr i p t) v=v.apart i:=rfl
@[go_sem] theorem Ig(l t:Nat):(Id.stk l t).isStk=true:=rfl
@[go_sem] theorem Ih(n:Nat):(Id.obj n).isStk=false:=rfl
@[go_sem] theorem Ii(n:Nat):(Id.arg n).isStk=false:=rfl
def FN(x:AV):Bool:=match x with| .ptr i _ _=>i.isStk|_=>false
@[go_sem] theorem JD(i:Id)(p:List Nat)(t:Ty):FN (.ptr i p t)=i.isStk:=rfl
def apU(s:St)(x:AV)(u:Nat):Bool:=if u=1000000 then FN x else rI x (Slots.get s.sl u)
def apAll(s:St)(x:AV):List Nat->Prop
 | []=>True
 |u::l=>apU s x u=true/\apAll s x l
@[go_sem] theorem Je(s:St)(x:AV):apAll s x []=True:=rfl
@[go_sem] theorem GZ(x:AV)(l:List Nat):apAll ⟨sl,own,h⟩ x (1000000::l)=(FN x=true/\apAll ⟨sl,own,h⟩ x l):=rfl
@[go_sem] theorem G0(x:AV)(u:Nat)(l:List Nat)(hu:¬u=1000000):apAll ⟨sl,own,h⟩ x (u::l)=(rI x (Slots.get sl u)=true/\apAll ⟨sl,own,h⟩ x l):=by
 simp only[apAll,apU];rw[if_neg hu]
theorem tG(s:St)(x:AV):∀l,apAll s x l= ∀u∈l,apU s x u=true
 | []=>by simp[apAll]
 |u::l=>by simp[apAll,tG s x l]
def F1:AV->Option AV
 | .ptr i p t=>some (.ptr i p t)
 |_=>none
@[go_sem] theorem Kn(i:Id)(p:List Nat)(t:Ty):F1 (.ptr i p t)=some (.ptr i p t):=rfl
@[go_sem] theorem Ns{u:Nat}(hu:¬u=1000000)(hu2:¬u=1000001):W T cx (.ops (⟨d,.load false (some u) t x,none⟩::r) kill::k) s Q=
  (vW (s.opd x) (Slots.get s.sl u)=true/\W1 T cx (ldV t (s.opd x) (s.rd cx)) d r kill k s Q):=by
 rw[gW rfl,evOp]
 simp only[evK]
 cases hx:s.opd x<;>simp only[vW,ldV,rooted,Bool.false_eq_true,false_implies,true_and,and_true,false_and]<;>try rfl
 rename_i i p t'
 rw[if_neg hu,if_neg hu2]
 by_cases h1:(Slots.get s.sl u).into i=true
 ·have h1':(s.opd (.s u)).into i=true:=h1
  simp only[h1,h1',and_true,true_and]
  by_cases ht:t=t'
  ·simp only[ht,if_true,St.rd]
   cases(s.look cx i).bind fun b=>b.val.at p with
   |none=>rfl
   |some v=>by_cases hf:t'.fits v=true<;>simp[hf,onO,ax,W1]
  ·simp only[ht,if_false];rfl
 ·have h1':¬(s.opd (.s u)).into i=true:=h1
  simp only[h1,h1',and_false,false_and,if_false,Bool.false_eq_true,onO,W1]
@[go_sem] theorem Nr:W T cx (.ops (⟨d,.nilck x,none⟩::r) kill::k) s Q=W1 T cx (F1 (s.opd x)) d r kill k s Q:=
 gg rfl (by simp only[evK,F1];split<;>simp_all)
def BE(st:Ty)(i:Nat)(ft:Ty)(x:AV):Option AV:=match x with
 | .ptr j p t=>if t=st/\st.field i=some ft then some (.ptr j (p++[i]) ft)else none
 |_=>none
@[go_sem] theorem BD(st:Ty)(i:Nat)(ft:Ty)(j:Id)(p:List Nat):BE st i ft (.ptr j p st)=if st.field i=some ft then some (.ptr j (p++[i]) ft)else none:=by simp[BE]
@[go_sem] theorem Pt{st ft:Ty}:W T cx (.ops (⟨d,.fld st i ft x,none⟩::r) kill::k) s Q=W1 T cx (BE st i ft (s.opd x)) d r kill k s Q:=
 gg rfl (by simp only[evK,BE];cases s.opd x<;>simp only[Option.map_none]<;>split<;>rfl)
def mh(n:Nat)(t:Ty)(x i:AV):Option AV:=match x,toIx i with
 | .ptr j p t',some z=>if t'=.arr n t/\0<=z/\z<(n:Int)then some (.ptr j (p++[z.toNat]) t)else none
 |_,_=>none
@[go_sem] theorem Kx{j:Id}{k:IntKind}{z:Int}(h0:0<=z)(hm:z<n):mh n t (.ptr j p (.arr n t)) (.int k z)=some (.ptr j (p++[z.toNat]) t):=by
 simp only[mh,toIx];rw[if_pos ⟨trivial,by omega,by omega⟩]
@[go_sem] theorem Ps{i:Opd}:W T cx (.ops (⟨d,.idx n t x i,none⟩::r) kill::k) s Q=W1 T cx (mh n t (s.opd x) (s.opd i)) d r kill k s Q:=
 gg rfl (by
  simp only[evK,mh]
  cases s.opd x<;>try rfl
  cases toIx (s.opd i)<;>try rfl
  simp only
  split<;>rfl)
def tJ(n:Nat)(t:Ty)(x i:AV):Option AV:=match x,toIx i with
 | .arr m f,some z=>if h:0<=z/\z<(m:Int)then if(Ty.arr n t).fits (.arr m f)then some (f ⟨z.toNat,by omega⟩)else none else none
 |_,_=>none
@[go_sem] theorem OX{i:Opd}:W T cx (.ops (⟨d,.aidx n t x i,none⟩::r) kill::k) s Q=W1 T cx (tJ n t (s.opd x) (s.opd i)) d r kill k s Q:=
 gg rfl (by
  simp only[evK,tJ]
  cases s.opd x<;>try rfl
  cases toIx (s.opd i)<;>try rfl
  simp only
  split<;>try rfl
  split<;>rfl)
def ia(x i:AV):Option AV:=match x,toIx i with
 | .str b,some z=>if 0<=z then(b[z.toNat]?).map fun c=>.int .u8 c.toNat else none
 |_,_=>none
@[go_sem] theorem LB{i:Opd}:W T cx (.ops (⟨d,.stridx x i,none⟩::r) kill::k) s Q=W1 T cx (ia (s.opd x) (s.opd i)) d r kill k s Q:=
 gg rfl (by
  simp only[evK,ia]
  cases s.opd x<;>try rfl
  cases toIx (s.opd i)<;>try rfl
  simp only
  split<;>simp[Function.comp_def])
def BK(x:AV)(i:Nat):Option AV:=match x with
 | .tup v=>match v.field i with
  |some u=>if u.safe then some u else none
  |none=>none
 |_=>none
@[go_sem] theorem Pv:W T cx (.ops (⟨d,.ext x i,none⟩::r) kill::k) s Q=W1 T cx (BK (s.opd x) i) d r kill k s Q:=
 gg rfl (by
  simp only[evK,BK]
  cases s.opd x<;>try rfl
  rename_i w
  simp only
  cases w.field i with
  |none=>rfl
  |some u=>by_cases hu:u.safe=true<;>simp[hu])
def Cb(k:IntKind)(x:AV):Option AV:=match x with| .int _ n=>some (.int k (k.wrap n))|_=>none
@[go_sem] theorem Jb(k k':IntKind)(n:Int):Cb k (.int k' n)=some (.int k (k.wrap n)):=rfl
@[go_sem] theorem OU{kk:IntKind}:W T cx (.ops (⟨d,.conv kk x,none⟩::r) kill::k) s Q=W1 T cx (Cb kk (s.opd x)) d r kill k s Q:=
 gg rfl (by simp only[evK,Cb];cases s.opd x<;>rfl)
def uj(str:Bool)(x:AV):Option AV:=match str,x with
 |true,.str b=>some (.int .i64 b.size)
 |false,.nilsl=>some (.int .i64 0)
 |false,.sl _ _ n=>some (.int .i64 n)
 |false,.slz=>some (.int .i64 0)
 |_,_=>none
@[go_sem] theorem Kq(b:ByteArray):uj true (.str b)=some (.int .i64 b.size):=rfl
@[go_sem] theorem Ks:uj false .nilsl=some (.int .i64 0):=rfl
@[go_sem] theorem Kr:uj false .slz=some (.int .i64 0):=rfl
@[go_sem] theorem Mp(i:Id)(o n:Nat):uj false (.sl i o n)=some (.int .i64 n):=rfl
@[go_sem] theorem Pr:W T cx (.ops (⟨d,.len b x,none⟩::r) kill::k) s Q=W1 T cx (uj b (s.opd x)) d r kill k s Q:=
 gg rfl (by simp only[evK,uj];cases b<;>cases s.opd x<;>rfl)
def PC(x y:AV):Option AV:=match x,y with
 | .int k a,.int k' b=>if k=k' then some (.int k (if b<a then b else a))else none
 |_,_=>none
def DL(x y:AV):Option AV:=match x,y with
 | .int k a,.int k' b=>if k=k' then some (.int k (if a<b then b else a))else none
 |_,_=>none
@[go_sem] theorem Pq:W T cx (.ops (⟨d,.max x y,none⟩::r) kill::k) s Q=W1 T cx (DL (s.opd x) (s.opd y)) d r kill k s Q:=
 gg rfl (by
  simp only[evK,DL];cases s.opd x<;>try rfl
  cases s.opd y<;>try rfl
  simp only;split<;>rfl)
def HP.wr(h:HP)(i:Id)(p:List Nat)(v:AV):HP:=match h.look i with
 |some b=>match b.val.put p v with
  |some u=>h.set i ⟨b.ty,u⟩
  |none=>h
 |none=>h
def stV(cx:Cx)(t:Ty)(x v:AV)(s:St):Option St:=match x with
 | .ptr i p t'=>if t=t'/\t.fits v=true then match s.look cx i with
   |some b=>match b.val.put p v with
    |some u=>s.write cx i ⟨b.ty,u⟩
    |none=>none
   |none=>none
  else none
 |_=>none
@[go_sem] theorem No{v:Opd}:W T cx (.ops (⟨none,.store t [] x v,none⟩::r) kill::k) s Q=W2 T cx (stV cx t (s.opd x) (s.opd v) s) r kill k Q:=by
 rw[gW rfl,evOp]
 simp only[evK,List.all_nil,and_true]
 cases s.opd x<;>simp only[stV]<;>try rfl
 rename_i i p t'
 by_cases hc:t=t'/\t.fits (s.opd v)=true
 ·rw[if_pos hc,if_pos hc]
  cases s.look cx i with
  |none=>rfl
  |some b=>
   simp only
   cases b.val.put p (s.opd v)with
   |none=>rfl
   |some u=>
    simp only[ax]
    cases s.write cx i ⟨b.ty,u⟩<;>rfl
 ·rw[if_neg hc,if_neg hc];rfl
@[go_sem] theorem LC{a:Nat}{ap:List Nat}{v:Opd}:W T cx (.ops (⟨none,.store t (a::ap) x v,none⟩::r) kill::k) s Q=
  (apAll s (s.opd x) (a::ap)/\W2 T cx (stV cx t (s.opd x) (s.opd v) s) r kill k Q):=by
 rw[gW rfl,evOp,tG]
 simp only[evK]
 cases hx:s.opd x<;>simp only[stV,W2,onO,and_false]<;>try rfl
 rename_i i p t'
 have hU:∀u,apU s (.ptr i p t') u=apartU s.opd i u:=fun u=>rfl
 simp only[hU]
 by_cases ha:((a::ap).all fun u=>apartU s.opd i u)=true
 ·have ha':∀u∈a::ap,apartU s.opd i u=true:=List.all_eq_true.1 ha
  simp only[ha,and_true]
  rw[eq_true ha',true_and]
  by_cases hc:t=t'/\t.fits (s.opd v)=true
  ·rw[if_pos hc,if_pos hc]
   cases s.look cx i with
   |none=>rfl
   |some b=>
    simp only
    cases b.val.put p (s.opd v)with
    |none=>rfl
    |some u=>
     simp only[ax]
     cases s.write cx i ⟨b.ty,u⟩<;>rfl
  ·rw[if_neg hc,if_neg hc]
 ·have ha':¬∀u∈a::ap,apartU s.opd i u=true:=fun h=>ha (List.all_eq_true.2 h)
  rw[eq_false ha',false_and]
  simp only[ha,Bool.false_eq_true,and_false,if_false]
def DJ(own:Own)(d:Nat)(p:List Nat)(v:AV):Option Own:=match own.get d with
 |some b=>match b.val.put p v with
  |some u=>some (own.set d ⟨b.ty,u⟩)
  |none=>none
 |none=>none
@[go_sem] theorem L4{d:Nat}:stV cx t (.ptr (.stk cx.lvl d) p t) v ⟨sl,own,h⟩=if t.fits v=true then(DJ own d p v).map fun o=>⟨sl,o,h⟩else none:=by
 simp only[stV,true_and,St.look,Id.own,if_true,St.write,DJ]
 split<;>try rfl
 cases own.get d with
 |none=>rfl
 |some b=>
  simp only
  cases b.val.put p v<;>rfl
end
variable{R:AV->HP->Prop}{fn:MFun}
section
variable{T:MTb}{cx:Cx}{k:List Item}{kill:List Nat}{r:List MOp}{sl:Slots}{own:Own}{h:HP}{Q:St->Prop}
@[go_sem] theorem Mw(u:Nat):Slots.get [] u=.bot:=rfl
@[go_sem] theorem Kz(t u:Nat)(v:AV)(s:Slots):Slots.get ((t,v)::s) u=if t=u then v else Slots.get s u:=rfl
@[go_sem] theorem L5(u:Nat)(x:AV):Slots.set [] u x=[(u,x)]:=rfl
@[go_sem] theorem JN(t u:Nat)(v x:AV)(s:Slots):Slots.set ((t,v)::s) u x=if t=u then(u,x)::s else if u<t then(u,x)::(t,v)::s else(t,v)::Slots.set s u x:=rfl
@[go_sem] theorem Kl(u:Nat):Own.get [] u=none:=rfl
@[go_sem] theorem HS(t u:Nat)(v:Blk)(s:Own):Own.get ((t,v)::s) u=if t=u then some v else Own.get s u:=rfl
@[go_sem] theorem Ki(u:Nat)(x:Blk):Own.set [] u x=[(u,x)]:=rfl
@[go_sem] theorem HM(t u:Nat)(v x:Blk)(s:Own):Own.set ((t,v)::s) u x=if t=u then(u,x)::s else if u<t then(u,x)::(t,v)::s else(t,v)::Own.set s u x:=rfl
@[go_sem] theorem Mv(t:Nat):has [] t=false:=rfl
@[go_sem] theorem Ky(a t:Nat)(l:List Nat):has (a::l) t=(a==t||has l t):=rfl
@[go_sem] theorem ED(l:List Nat):Slots.without [] l=[]:=rfl
@[go_sem] theorem Dm(t:Nat)(v:AV)(s:Slots)(l:List Nat):Slots.without ((t,v)::s) l=if has l t=true then Slots.without s l else(t,v)::Slots.without s l:=rfl
@[go_sem] theorem Kj(l:List Nat):Slots.only [] l=[]:=rfl
@[go_sem] theorem HQ(t:Nat)(v:AV)(s:Slots)(l:List Nat):Slots.only ((t,v)::s) l=if has l t=true then(t,v)::Slots.only s l else Slots.only s l:=rfl
@[go_sem] theorem HO(l:List Nat):Own.only [] l=[]:=rfl
@[go_sem] theorem FY(t:Nat)(v:Blk)(s:Own)(l:List Nat):Own.only ((t,v)::s) l=if has l t=true then(t,v)::Own.only s l else Own.only s l:=rfl
@[go_sem] theorem Ms(a b:List Nat):St.keep ⟨sl,own,h⟩ a b=⟨sl.only a,own.only b,h⟩:=rfl
@[go_sem] theorem Hy(d:Nat)(v:AV):St.setd ⟨sl,own,h⟩ (some d) v=⟨sl.set d v,own,h⟩:=rfl
@[go_sem] theorem Hz(v:AV)(s:St):St.setd s none v=s:=rfl
@[go_sem] theorem O1(t:Nat):St.opd ⟨sl,own,h⟩ (.s t)=sl.get t:=rfl
@[go_sem] theorem O3(v:AV)(s:St):St.opd s (.c v)=v:=rfl
@[go_sem] theorem O2(n:Nat)(s:St):St.opd s (.f n)=.func n .unit:=rfl
def fg(v:AV)(i:Id):AV:=if v.leads i then .bot else v
@[go_sem] theorem Gg(i:Id):Slots.forget [] i=[]:=rfl
@[go_sem] theorem E5(t:Nat)(v:AV)(s:Slots)(i:Id):Slots.forget ((t,v)::s) i=(t,fg v i)::Slots.forget s i:=rfl
@[go_sem] theorem Of(k:IntKind)(n:Int)(i:Id):fg (.int k n) i=.int k n:=rfl
@[go_sem] theorem MV(b:Bool)(i:Id):fg (.bool b) i=.bool b:=rfl
@[go_sem] theorem Ob(b:ByteArray)(i:Id):fg (.str b) i=.str b:=rfl
@[go_sem] theorem Om(f:Fin n->AV)(i:Id):fg (.arr n f) i=.arr n f:=rfl
@[go_sem] theorem MU(a b:AV)(i:Id):fg (.cons a b) i=.cons a b:=rfl
@[go_sem] theorem N9(a:AV)(i:Id):fg (.tup a) i=.tup a:=rfl
@[go_sem] theorem KY(i:Id):fg .undef i=.undef:=rfl
@[go_sem] theorem Ol(i:Id):fg .bot i=.bot:=rfl
@[go_sem] theorem MR(i:Id):fg .nilp i=.nilp:=rfl
@[go_sem] theorem K0(i:Id):fg .nilsl i=.nilsl:=rfl
def Id.below:Id->Nat->Prop
 | .stk l' _,l=>l'<l
 |_,_=>True
theorem o1{i:Id}(h:i.below l):i.own l=none:=by
 cases i<;>simp_all[Id.below,Id.own]
 omega
theorem Id.below.succ{i:Id}(h:i.below l):i.below (l+1):=by
 cases i<;>simp_all[Id.below]
 omega
@[go_sem] theorem cV(l t:Nat):(Id.stk l t).below (l+1):=by simp[Id.below]
@[go_sem] theorem ar(n l:Nat):(Id.obj n).below l:=trivial
@[go_sem] theorem Ah(n l:Nat):(Id.arg n).below l:=trivial
theorem Id.below.ne{i:Id}{t:Nat}(h:i.below l):i≠ .stk l t:=by
 rintro rfl;simp[Id.below]at h
theorem au{i:Id}{t:Nat}(h:i.below l)(p:List Nat)(u:Ty):fg (.ptr i p u) (.stk l t)=.ptr i p u:=by
 have:(Id.stk l t==i)=false:=by simpa using fun e:Id.stk l t=i=>h.ne e.symm
 simp[fg,AV.leads,AV.isAgg,AV.names,this]
@[go_sem] theorem Od(l s t:Nat)(p:List Nat)(u:Ty):fg (.ptr (.stk l s) p u) (.stk l t)=if t=s then .bot else .ptr (.stk l s) p u:=by
 simp only[fg,AV.leads,AV.isAgg,AV.names,Bool.not_false,Bool.true_and,beq_iff_eq,Id.stk.injEq,true_and]
def m6(cx:Cx)(s:St):Option Nat->Bool
 |some d=>(s.own.get d).isNone&&s.sl.all fun p=>!(p.2.leads (.stk cx.lvl d))
 |none=>true
def oa(l d:Nat):Slots->Bool
 | []=>true
 |(_,v)::s=>!(v.leads (.stk l d))&&oa l d s
@[go_sem] theorem F0(l d:Nat):oa l d []=true:=rfl
@[go_sem] theorem ER(l d t:Nat)(v:AV)(s:Slots):oa l d ((t,v)::s)=(!(v.leads (.stk l d))&&oa l d s):=rfl
@[go_sem] theorem Dv(s:St):m6 cx s none=true:=rfl
@[go_sem] theorem Du(d:Nat):m6 cx ⟨sl,own,h⟩ (some d)=((own.get d).isNone&&oa cx.lvl d sl):=by
 simp only[m6];congr 1
 induction sl with
 |nil=>rfl
 |cons p r ih=>obtain⟨t,v⟩:=p;simp only[List.all_cons,oa,ih]
@[go_sem] theorem OM{ops:List MOp}:W T cx (.code (.reg true ops kill)::k) s Q=((ops.map MOp.site).all (m6 cx s)=true/\W T cx (.ops ops kill::k) s Q):=by
 have hd:(ops.map MOp.site).all (m6 cx s)=jl cx s ops:=by
  simp only[jl,List.all_map];congr 1
 rw[hd]
 by_cases h1:jl cx s ops=true
 ·rw[eq_true h1,true_and];exact W_iff (by simp[next,h1])
 ·rw[eq_false h1,false_and];exact W_fail (by simp[next,h1])
@[go_sem] theorem H7(k:IntKind)(n:Int)(i:Id):(AV.int k n).leads i=false:=rfl
@[go_sem] theorem F8(b:Bool)(i:Id):(AV.bool b).leads i=false:=rfl
@[go_sem] theorem H0(b:ByteArray)(i:Id):(AV.str b).leads i=false:=rfl
@[go_sem] theorem Ie(f:Fin n->AV)(i:Id):(AV.arr n f).leads i=false:=rfl
@[go_sem] theorem F7(a b:AV)(i:Id):(AV.cons a b).leads i=false:=rfl
@[go_sem] theorem HY(a:AV)(i:Id):(AV.tup a).leads i=false:=rfl
@[go_sem] theorem Ic(i:Id):AV.bot.leads i=false:=rfl
@[go_sem] theorem E0(i:Id):AV.undef.leads i=false:=rfl
@[go_sem] theorem F4(i:Id):AV.nilp.leads i=false:=rfl
theorem af{i:Id}{t:Nat}(h:i.below l)(p:List Nat)(u:Ty):(AV.ptr i p u).leads (.stk l t)=false:=by
 have:(Id.stk l t==i)=false:=by simpa using fun e=>h.ne e.symm
 simp[AV.leads,AV.isAgg,AV.names,this]
@[go_sem] theorem H5(l s t:Nat)(p:List Nat)(u:Ty):(AV.ptr (.stk l s) p u).leads (.stk l t)=(t==s):=by
 simp only[AV.leads,AV.isAgg,AV.names,Bool.not_false,Bool.true_and]
 rw[Bool.eq_iff_iff];simp
attribute[go_sem] MOp.site List.all_cons List.all_nil List.map_cons List.map_nil Option.isNone_none Option.isNone_some Bool.not_false Bool.not_true Bool.and_self Bool.true_and Bool.and_true Bool.or_true Bool.true_or Bool.or_false Bool.false_or Bool.false_and Bool.and_false true_and and_true Nat.reduceEqDiff Nat.reduceLT Nat.reduceBEq Bool.false_eq_true Option.map_some Option.map_none reduceCtorEq eq_self Nat.add_eq Nat.zero_add
attribute[go_sem ↓] reduceIte
@[go_sem] theorem NR{d:Nat}:St.rd cx ⟨sl,own,h⟩ (.stk cx.lvl d) p=(own.get d).bind fun b=>b.val.at p:=by
 simp[St.rd,St.look,Id.own]
theorem aw{i:Id}(hi:i.below cx.lvl):St.rd cx ⟨sl,own,h⟩ i p=h.rd i p:=by
 simp[St.rd,St.look,o1 hi,HP.rd]
theorem HP.rd_app{h:HP}{i:Id}(hv:h.rd i p=some v)(q:List Nat):h.rd i (p++q)=v.at q:=by
 have key:∀(p:List Nat) (w:AV),w.at p=some v->w.at (p++q)=v.at q:=by
  intro p
  induction p with
  |nil=>intro w hw;simp[AV.at]at hw;subst hw;rfl
  |cons a p ih=>
   intro w hw
   match w,a,hw with
   | .arr n f,i,hw=>
    simp only[AV.at]at hw
    split at hw
    ·rename_i hi;simp only[List.cons_append,AV.at,hi,dite_true];exact ih _ hw
    ·simp at hw
   | .cons x y,0,hw=>simp only[AV.at]at hw;simp only[List.cons_append,AV.at];exact ih _ hw
   | .cons x y,i+1,hw=>
    simp only[AV.at]at hw
    simp only[List.cons_append,AV.at]
    have:∀(j:Nat) (y:AV),y.at (j::p)=some v->y.at (j::(p++q))=v.at q:=by
     intro j
     induction j with
     |zero=>intro y hy;match y,hy with
      | .arr n f,hy=>
       simp only[AV.at]at hy
       split at hy
       ·rename_i hi;simp only[AV.at,hi,dite_true];exact ih _ hy
       ·simp at hy
      | .cons c d,hy=>simp only[AV.at]at hy⊢;exact ih _ hy
     |succ j ihj=>intro y hy;match y,hy with
      | .arr n f,hy=>
       simp only[AV.at]at hy
       split at hy
       ·rename_i hi;simp only[AV.at,hi,dite_true];exact ih _ hy
       ·simp at hy
      | .cons c d,hy=>simp only[AV.at]at hy⊢;exact ihj _ hy
    exact this i y hw
 unfold HP.rd at hv⊢
 cases hl:h.look i with
 |none=>rw[hl]at hv;simp at hv
 |some b=>rw[hl]at hv;simp only[Option.bind]at hv⊢;exact key p b.val hv
attribute[go_sem] Option.bind_some Option.bind_none List.append_assoc List.cons_append List.nil_append List.append_nil
@[go_sem] theorem xU(v:AV):v.at []=some v:=by cases v<;>rfl
@[go_sem] theorem Lt(a b:AV)(p:List Nat):(AV.cons a b).at (0::p)=a.at p:=rfl
@[go_sem] theorem Ls(a b:AV)(i:Nat)(p:List Nat):(AV.cons a b).at ((i+1)::p)=b.at (i::p):=rfl
@[go_sem] theorem gl(v x:AV):v.put [] x=some x:=by cases v<;>rfl
@[go_sem] theorem zC(a b x:AV)(p:List Nat):(AV.cons a b).put (0::p) x=(a.put p x).map fun y=>.cons y b:=rfl
@[go_sem] theorem HJ(a b x:AV)(i:Nat)(p:List Nat):(AV.cons a b).put ((i+1)::p) x=(b.put (i::p) x).map fun y=>.cons a y:=rfl
@[go_sem] theorem Mm(d:Nat)(p:List Nat)(v:AV):DJ own d p v=(own.get d).bind fun b=>(b.val.put p v).map fun u=>own.set d ⟨b.ty,u⟩:=by
 simp only[DJ]
 cases own.get d with
 |none=>rfl
 |some b=>simp only[Option.bind];cases b.val.put p v<;>rfl
@[go_sem] theorem ox(a b:Ty)(x y:AV):((Ty.cons a b).fits (.cons x y)=true)=(a.fits x=true/\b.fits y=true):=by simp[Ty.fits]
@[go_sem] theorem s9:(Ty.unit.fits .unit=true)=True:=by simp[Ty.fits]
@[go_sem] theorem I8(op:BinOp)(k:IntKind)(a b:Int):lz op (.int k a) (.int k b)=evInt op k a b:=by simp[lz]
@[go_sem] theorem I5(k:IntKind)(a b:Int):evInt .eql k a b=some (.bool (decide (a=b))):=by simp[evInt];rw[Bool.eq_iff_iff];simp
@[go_sem] theorem IZ(k:IntKind)(a b:Int):evInt .neq k a b=some (.bool (!decide (a=b))):=by simp[evInt];rw[Bool.eq_iff_iff];simp
@[go_sem] theorem I1(k:IntKind)(a b:Int):evInt .lss k a b=some (.bool (decide (a<b))):=rfl
@[go_sem] theorem I2(k:IntKind)(a b:Int):evInt .leq k a b=some (.bool (decide (a<=b))):=rfl
@[go_sem] theorem I3(k:IntKind)(a b:Int):evInt .gtr k a b=some (.bool (decide (b<a))):=rfl
@[go_sem] theorem I4(k:IntKind)(a b:Int):evInt .geq k a b=some (.bool (decide (b<=a))):=rfl
@[go_sem] theorem I6(k:IntKind)(a b:Int):evInt .add k a b=some (.int k (k.wrap (a+b))):=rfl
@[go_sem] theorem IY(k:IntKind)(a b:Int):evInt .sub k a b=some (.int k (k.wrap (a-b))):=rfl
@[go_sem] theorem I0(k:IntKind)(a b:Int):evInt .mul k a b=some (.int k (k.wrap (a*b))):=rfl
@[go_sem] theorem I7(op:BinOp)(a b:ByteArray):lz op (.str a) (.str b)=evStr op a b:=rfl
theorem xR(bs:ByteArray):∀(n i:Nat) (r:List UInt8),bs.size-i=n->i<=bs.size->ByteArray.toList.loop bs i r=r.reverse++bs.data.toList.drop i:=by
 have hlen:bs.data.toList.length=bs.size:=Array.length_toList
 intro n
 induction n with
 |zero=>
  intro i r h hi
  have e:i=bs.size:=by omega
  subst e
  rw[ByteArray.toList.loop,if_neg (Nat.lt_irrefl _),List.drop_eq_nil_of_le (by omega),List.append_nil]
 |succ n ih=>
  intro i r h hi
  have hlt:i<bs.size:=by omega
  rw[ByteArray.toList.loop,if_pos hlt,ih (i+1) _ (by omega) (by omega)]
  have hl:i<bs.data.toList.length:=by omega
  rw[List.drop_eq_getElem_cons hl]
  have hg:bs.get! i=bs.data.toList[i]:=by
   cases bs with
   |mk d=>
    have hd:i<d.size:=hlt
    simp[ByteArray.get!,hd]
  simp[hg]
theorem kJ(bs:ByteArray):bs.toList=bs.data.toList:=by
 unfold ByteArray.toList
 rw[xR bs bs.size 0 [] (by omega) (by omega)]
 simp
theorem rE(a b:ByteArray):(a.toList==b.toList)=decide (a=b):=by
 rw[Bool.eq_iff_iff]
 simp only[beq_iff_eq,decide_eq_true_eq]
 constructor
 ·intro h
  rw[kJ,kJ]at h
  cases a;cases b
  simp only[ByteArray.mk.injEq]
  exact Array.toList_inj.1 h
 ·rintro rfl;rfl
@[go_sem] theorem IX(a b:ByteArray):evStr .eql a b=some (.bool (decide (a=b))):=by simp only[evStr,rE]
@[go_sem] theorem IU(a b:ByteArray):evStr .neq a b=some (.bool (!decide (a=b))):=by simp only[evStr,rE]
@[go_sem] theorem K2(b:Bool):z6 .not (.bool b)=some (.bool !b):=rfl
@[go_sem] theorem wrap64{n:Int}(h1: -9223372036854775808<=n)(h2:n<=9223372036854775807):IntKind.i64.wrap n=n:=by
 have e1:(IntKind.i64).bits=64:=rfl
 have e2:(IntKind.i64).signed=true:=rfl
 simp only[IntKind.wrap,e1,e2,Bool.true_and,ge_iff_le,decide_eq_true_eq]
 have p1:(2:Int)^64=18446744073709551616:=rfl
 have p2:(2:Int)^(64-1)=9223372036854775808:=rfl
 rw[p1,p2]
 split<;>omega
theorem aE{e:St}:Ok T cx fn e R=W T cx [.code fn.body] e fun s=>onO (results cx s fn.res) fun v=>R v s.hp:=by
 apply propext
 constructor
 ·rintro⟨n,s',v,hr,hv,hR⟩
  exact⟨n,s',hr,by simp only[hv];exact hR⟩
 ·rintro⟨n,s',hr,hq⟩
  cases hv:results cx s' fn.res with
  |none=>rw[hv]at hq;exact hq.elim
  |some v=>rw[hv]at hq;exact⟨n,s',v,hr,hv,hq⟩
theorem Ok.mono{e:St}{R':AV->HP->Prop}(h:Ok T cx fn e R)(hr:∀v h',R v h'->R' v h'):Ok T cx fn e R':=by
 obtain⟨n,s',v,h1,h2,h3⟩:=h;exact⟨n,s',v,h1,h2,hr _ _ h3⟩
theorem kM{prot:Bool}{hide:List Nat}{f:Nat}{args:List Opd}(hf:T f=some fn)(hp:fn.params=args.length/\fn.nfree=0)
  (hc:Ok T (St.callCx ⟨sl,own,h⟩ cx prot hide) fn (St.enter (args.map (St.opd ⟨sl,own,h⟩)) (h.push cx.lvl (own.veil hide))) R)
  (hq:∀v h',R v h'->W T cx (.ops r kill::k) ((St.pop ⟨sl,own,h⟩ cx.lvl hide h').setd d v) Q):
  W T cx (.ops (⟨d,.call prot hide f args,none⟩::r) kill::k) ⟨sl,own,h⟩ Q:=by
 refine uB (R:=R) (cx':=St.callCx ⟨sl,own,h⟩ cx prot hide) (hide:=hide) (e:=St.enter (args.map (St.opd ⟨sl,own,h⟩)) (h.push cx.lvl (own.veil hide))) (fn:=fn) (d:=d) (k1:=.ops r kill::k) (s1:=⟨sl,own,h⟩) ?_ hc hq
 simp only[next,St.wanted,opCmd,enterCmd,hf]
 rw[if_pos (by simpa using hp)]
 simp
@[go_sem] theorem qo:own.veil []=own:=rfl
@[go_sem] theorem GW(s:St)(p:Bool)(hide:List Nat):(s.callCx cx p hide).lvl=cx.lvl+1:=rfl
theorem oV(s:St)(p:Bool){hide:List Nat}(h:has hide 1000000=false):s.callCx cx p hide=s.callCx cx p:=by simp only[St.callCx,h,has,Bool.false_eq_true,if_false]
theorem HP.push_rd_own{d:Nat}:(h.push cx.lvl own).rd (.stk cx.lvl d) p=(own.get d).bind fun b=>b.val.at p:=by
 simp[HP.rd,HP.look,HP.push]
theorem HP.push_rd_ext{i:Id}(hi:i.below cx.lvl):(h.push cx.lvl own).rd i p=h.rd i p:=by
 cases i<;>simp only[HP.rd,HP.look,HP.push]
 simp only[Id.below]at hi
 rw[if_neg (by omega)]
theorem qN:St.pop ⟨sl,own,h⟩ cx.lvl [] (h.push cx.lvl own)=⟨sl,own,h⟩:=by
 simp only[St.pop,HP.pop,HP.push,Own.unveil,if_true]
 congr 1
 cases h
 simp only[HP.mk.injEq,and_true]
 funext l
 by_cases hl:l=cx.lvl<;>simp[hl]
theorem am{prot:Bool}{f:Nat}{args:List Opd}(hf:T f=some fn)(hp:fn.params=args.length/\fn.nfree=0)
  (hc:Ok T (St.callCx ⟨sl,own,h⟩ cx prot) fn (St.enter (args.map (St.opd ⟨sl,own,h⟩)) (h.push cx.lvl own)) fun v' h'=>v'=v/\h'=h.push cx.lvl own)
  (hq:W T cx (.ops r kill::k) (St.setd ⟨sl,own,h⟩ d v) Q):
  W T cx (.ops (⟨d,.call prot [] f args,none⟩::r) kill::k) ⟨sl,own,h⟩ Q:=by
 refine kM hf hp hc ?_
 rintro v h' ⟨rfl,rfl⟩
 rw[qN];exact hq
@[go_sem] theorem EN{t:Nat}:results cx ⟨sl,own,h⟩ [.tmp t]=if(sl.get t).safe=true then some (sl.get t)else none:=rfl
@[go_sem] theorem JR(k:IntKind)(n:Int):(AV.int k n).safe=true:=rfl
@[go_sem] theorem zr(b:Bool):(AV.bool b).safe=true:=rfl
@[go_sem] theorem JO(b:ByteArray):(AV.str b).safe=true:=rfl
def yP(cx:Cx)(s:St)(t:AV)(ty:Ty):Option AV:=match t with
 | .ptr i [] t'=>if ty=t' then(s.look cx i).bind fun b=>if b.ty=ty/\(b.val.isAgg||b.val.safe)=true then some b.val else none else none
 |_=>none
@[go_sem] theorem DC{t:Nat}:results cx ⟨sl,own,h⟩ [.cell t ty]=yP cx ⟨sl,own,h⟩ (sl.get t) ty:=rfl
@[go_sem] theorem Jc{d:Nat}:yP cx ⟨sl,own,h⟩ (.ptr (.stk cx.lvl d) [] ty) ty=(own.get d).bind fun b=>if b.ty=ty/\(b.val.isAgg||b.val.safe)=true then some b.val else none:=by
 simp[yP,St.look,Id.own]
end
abbrev Str:=ByteArray
structure Ent where
 name:Str
 ino:Int
 stamp:Int
 deriving DecidableEq
structure Ino where
 live:Bool
 stamp:Int
 links:Int
 part:Vector Int 2
 deriving DecidableEq
structure Dat where
 of:Int
 text:Str
 deriving DecidableEq
structure Img where
 inode:Vector Ino 8
 dir:Vector (Vector Ent 4) 3
 data:Vector Dat 9
 deriving DecidableEq
def bF{α:Type}{n:Nat}(f:α->AV)(v:Vector α n):AV:=.arr n fun i=>f v[i]
def ub{α:Type}{n:Nat}(f:α->AV)(v:Vector α n)(i:Nat)(y:AV):AV:=.arr n fun j=>if j.val=i then y else f v[j]
def Ent.enc(e:Ent):AV:=.cons (.str e.name) (.cons (.int .i64 e.ino) (.cons (.int .i64 e.stamp) .unit))
def Ino.enc(e:Ino):AV:=.cons (.bool e.live) (.cons (.int .i64 e.stamp) (.cons (.int .i64 e.links) (.cons (bF (AV.int .i64) e.part) .unit)))
def Dat.enc(e:Dat):AV:=.cons (.int .i64 e.of) (.cons (.str e.text) .unit)
def Img.enc(e:Img):AV:=.cons (bF Ino.enc e.inode) (.cons (bF (bF Ent.enc) e.dir) (.cons (bF Dat.enc e.data) .unit))
section
variable{α:Type}{n:Nat}{f:α->AV}{v w:Vector α n}
@[go_sem] theorem Ni(h:i<n)(p:List Nat):(bF f v).at (i::p)=(f v[i]).at p:=by simp[bF,AV.at,h]
@[go_sem] theorem jO(h:i<n)(p:List Nat)(x:AV):(bF f v).put (i::p) x=((f v[i]).put p x).map (ub f v i):=by
 simp[bF,AV.put,h];rfl
@[go_sem] theorem A7(h:i<n)(y:α):ub f v i (f y)=bF f (v.set i y):=by
 simp only[ub,bF]
 congr 1;funext j
 simp only[Fin.getElem_fin,Vector.getElem_set]
 by_cases hj:j.val=i
 ·simp[hj]
 ·have hj':¬i=j.val:=fun e=>hj e.symm
  simp[hj,hj']
@[go_sem] theorem MT(i:Id):fg (bF f v) i=bF f v:=rfl
@[go_sem] theorem F6(i:Id):(bF f v).leads i=false:=rfl
@[go_sem] theorem Gb:(bF f v).isAgg=true:=rfl
theorem iT(h:∀x,t.fits (f x)=true):(Ty.arr n t).fits (bF f v)=true:=by
 simp[bF,Ty.fits,h]
theorem iX(p q:Prop)[Decidable p][Decidable q]:iy (some (decide p)) (some (decide q))=some (decide (p/\q)):=by
 by_cases hp:p<;>simp[hp,iy]
theorem kF[DecidableEq α](hf:∀x y,(f x).eq (f y)=some (decide (x=y))):(bF f v).eq (bF f w)=some (decide (v=w)):=by
 simp only[bF,AV.eq,dite_true]
 have key:∀l:List (Fin n),l.foldr (fun i acc=>iy ((f v[i]).eq (f w[i])) acc) (some true)=some (decide (∀i∈l,v[i]=w[i])):=by
  intro l
  induction l with
  |nil=>simp
  |cons a l ih=>
   rw[List.foldr_cons,ih,hf,iX]
   congr 1
   rw[decide_eq_decide]
   exact(List.forall_mem_cons (p:=fun i=>v[i]=w[i])).symm
 refine(key (List.finRange n)).trans ?_
 congr 1
 rw[decide_eq_decide]
 constructor
 ·intro h;ext i hi;exact h ⟨i,hi⟩ (List.mem_finRange _)
 ·rintro rfl i _;rfl
end
@[go_sem] theorem G1{f:α->AV}{v:Vector α n}{k:IntKind}{m:Nat}(hm:m<n):tJ n t (bF f v) (.int k (m:Int))=if(Ty.arr n t).fits (bF f v)=true then some (f v[m])else none:=by
 simp only[bF,tJ,toIx]
 rw[dif_pos ⟨by omega,by omega⟩]
 rfl
@[go_sem] theorem Nh(e:Ent):e.enc.at [0]=some (.str e.name):=rfl
@[go_sem] theorem Ng(e:Ent):e.enc.at [1]=some (.int .i64 e.ino):=rfl
@[go_sem] theorem Nf(e:Ent):e.enc.at [2]=some (.int .i64 e.stamp):=rfl
@[go_sem] theorem Na(e:Ino):e.enc.at [0]=some (.bool e.live):=rfl
@[go_sem] theorem M9(e:Ino):e.enc.at [1]=some (.int .i64 e.stamp):=rfl
@[go_sem] theorem M8(e:Ino):e.enc.at [2]=some (.int .i64 e.links):=rfl
@[go_sem] theorem M7(e:Ino)(p:List Nat):e.enc.at (3::p)=(bF (AV.int .i64) e.part).at p:=rfl
@[go_sem] theorem Nk(e:Dat):e.enc.at [0]=some (.int .i64 e.of):=rfl
@[go_sem] theorem Nj(e:Dat):e.enc.at [1]=some (.str e.text):=rfl
@[go_sem] theorem Nd(e:Img)(p:List Nat):e.enc.at (0::p)=(bF Ino.enc e.inode).at p:=rfl
@[go_sem] theorem Nc(e:Img)(p:List Nat):e.enc.at (1::p)=(bF (bF Ent.enc) e.dir).at p:=rfl
@[go_sem] theorem Nb(e:Img)(p:List Nat):e.enc.at (2::p)=(bF Dat.enc e.data).at p:=rfl
@[go_sem] theorem Kc(e:Ent)(s:Str):e.enc.put [0] (.str s)=some (Ent.enc {e with name:=s}):=rfl
@[go_sem] theorem Kb(e:Ent)(n:Int):e.enc.put [1] (.int .i64 n)=some (Ent.enc {e with ino:=n}):=rfl
@[go_sem] theorem Ka(e:Ent)(n:Int):e.enc.put [2] (.int .i64 n)=some (Ent.enc {e with stamp:=n}):=rfl
@[go_sem] theorem J6(e:Ino)(b:Bool):e.enc.put [0] (.bool b)=some (Ino.enc {e with live:=b}):=rfl
@[go_sem] theorem J5(e:Ino)(n:Int):e.enc.put [1] (.int .i64 n)=some (Ino.enc {e with stamp:=n}):=rfl
@[go_sem] theorem J4(e:Ino)(n:Int):e.enc.put [2] (.int .i64 n)=some (Ino.enc {e with links:=n}):=rfl
@[go_sem] theorem J3(e:Ino)(h:i<2)(n:Int):e.enc.put [3,i] (.int .i64 n)=some (Ino.enc {e with part:=e.part.set i n}):=by
 have key:(bF (AV.int .i64) e.part).put [i] (.int .i64 n)=some (bF (AV.int .i64) (e.part.set i n)):=by
  rw[jO h,gl,Option.map_some,A7 h]
 show((((((bF (AV.int .i64) e.part).put [i] (.int .i64 n)).map fun y=>AV.cons y .unit).map fun y=>AV.cons (.int .i64 e.links) y).map fun y=>AV.cons (.int .i64 e.stamp) y).map fun y=>AV.cons (.bool e.live) y)=_
 rw[key];rfl
@[go_sem] theorem Ke(e:Dat)(n:Int):e.enc.put [0] (.int .i64 n)=some (Dat.enc {e with of:=n}):=rfl
@[go_sem] theorem Kd(e:Dat)(s:Str):e.enc.put [1] (.str s)=some (Dat.enc {e with text:=s}):=rfl
@[go_sem] theorem J9(e:Img)(h:i<8)(p:List Nat)(x:AV):e.enc.put (0::i::p) x=(e.inode[i].enc.put p x).map fun y=>.cons (ub Ino.enc e.inode i y) (.cons (bF (bF Ent.enc) e.dir) (.cons (bF Dat.enc e.data) .unit)):=by
 simp only[Img.enc]
 rw[zC,jO h,Option.map_map];rfl
@[go_sem] theorem J7(e:Img)(h:i<9)(p:List Nat)(x:AV):e.enc.put (2::i::p) x=(e.data[i].enc.put p x).map fun y=>.cons (bF Ino.enc e.inode) (.cons (bF (bF Ent.enc) e.dir) (.cons (ub Dat.enc e.data i y) .unit)):=by
 have key:=jO (f:=Dat.enc) (v:=e.data) h p x
 show((((bF Dat.enc e.data).put (i::p) x).map fun y=>AV.cons y .unit).map fun y=>AV.cons (bF (bF Ent.enc) e.dir) y).map (fun y=>AV.cons (bF Ino.enc e.inode) y)=_
 rw[key]
 cases e.data[i].enc.put p x<;>rfl
@[go_sem] theorem J8(e:Img)(h:i<3)(hj:j<4)(p:List Nat)(x:AV):e.enc.put (1::i::j::p) x=(e.dir[i][j].enc.put p x).map fun y=>.cons (bF Ino.enc e.inode) (.cons (ub (bF Ent.enc) e.dir i (ub Ent.enc e.dir[i] j y)) (.cons (bF Dat.enc e.data) .unit)):=by
 have key:(bF (bF Ent.enc) e.dir).put (i::j::p) x=(e.dir[i][j].enc.put p x).map fun y=>ub (bF Ent.enc) e.dir i (ub Ent.enc e.dir[i] j y):=by
  rw[jO h,jO hj,Option.map_map];rfl
 show(((bF (bF Ent.enc) e.dir).put (i::j::p) x).map fun y=>AV.cons y (.cons (bF Dat.enc e.data) .unit)).map (fun y=>AV.cons (bF Ino.enc e.inode) y)=_
 rw[key]
 cases e.dir[i][j].enc.put p x<;>rfl
@[go_sem] theorem EQ(e:Img)(h:i<3)(y:Vector Ent 4):e.enc.put [1,i] (bF Ent.enc y)=some (Img.enc {e with dir:=e.dir.set i y}):=by
 have key:(bF (bF Ent.enc) e.dir).put [i] (bF Ent.enc y)=some (bF (bF Ent.enc) (e.dir.set i y)):=by
  rw[jO h,gl,Option.map_some,A7 h]
 show(((bF (bF Ent.enc) e.dir).put [i] (bF Ent.enc y)).map fun y=>AV.cons y (.cons (bF Dat.enc e.data) .unit)).map (fun y=>AV.cons (bF Ino.enc e.inode) y)=_
 rw[key];rfl
theorem tf(e:Ent):aq.fits e.enc=true:=rfl
theorem tc(e:Ino):aj.fits e.enc=true:=rfl
theorem tg(e:Dat):cf.fits e.enc=true:=rfl
theorem ma(v:Vector Ent 4):dC.fits (bF Ent.enc v)=true:=iT tf
theorem kC(v:Vector (Vector Ent 4) 3):cI.fits (bF (bF Ent.enc) v)=true:=iT ma
theorem nv(v:Vector Ino 8):aK.fits (bF Ino.enc v)=true:=iT tc
theorem pY(v:Vector Dat 9):dD.fits (bF Dat.enc v)=true:=iT tg
theorem lx(v:Vector Int 2):cH.fits (bF (AV.int .i64) v)=true:=iT (t:=tI) fun _=>rfl
theorem fa(e:Img):ac.fits e.enc=true:=by
 show(Ty.cons aK (.cons cI (.cons dD .unit))).fits (AV.cons _ (.cons _ (.cons _ .unit)))=true
 simp only[ox,s9,nv,kC,pY,and_self]
@[go_sem] theorem KD(e:Ent):(aq.fits e.enc=true)=True:=eq_true (tf e)
@[go_sem] theorem KB(e:Ino):(aj.fits e.enc=true)=True:=eq_true (tc e)
@[go_sem] theorem KE(e:Dat):(cf.fits e.enc=true)=True:=eq_true (tg e)
@[go_sem] theorem KC(e:Img):(ac.fits e.enc=true)=True:=eq_true (fa e)
@[go_sem] theorem BF(v:Vector Ent 4):(dC.fits (bF Ent.enc v)=true)=True:=eq_true (ma v)
@[go_sem] theorem zX(v:Vector (Vector Ent 4) 3):(cI.fits (bF (bF Ent.enc) v)=true)=True:=eq_true (kC v)
@[go_sem] theorem pW(v:Vector Ino 8):(aK.fits (bF Ino.enc v)=true)=True:=eq_true (nv v)
@[go_sem] theorem xI(v:Vector Dat 9):(dD.fits (bF Dat.enc v)=true)=True:=eq_true (pY v)
@[go_sem] theorem xH(v:Vector Int 2):(cH.fits (bF (AV.int .i64) v)=true)=True:=eq_true (lx v)
@[go_sem] theorem Iw(v:Vector Ent 4):((Ty.arr 4 aq).fits (bF Ent.enc v)=true)=True:=BF v
@[go_sem] theorem Gj(v:Vector (Vector Ent 4) 3):((Ty.arr 3 dC).fits (bF (bF Ent.enc) v)=true)=True:=zX v
@[go_sem] theorem DX(v:Vector Ino 8):((Ty.arr 8 aj).fits (bF Ino.enc v)=true)=True:=pW v
@[go_sem] theorem E8(v:Vector Dat 9):((Ty.arr 9 cf).fits (bF Dat.enc v)=true)=True:=xI v
@[go_sem] theorem E7(v:Vector Int 2):((Ty.arr 2 tI).fits (bF (AV.int .i64) v)=true)=True:=xH v
@[go_sem] theorem DW(n:Int):(tI.fits (.int .i64 n)=true)=True:=eq_true rfl
@[go_sem] theorem My(n:Bool):(tB.fits (.bool n)=true)=True:=eq_true rfl
@[go_sem] theorem DU(n:Str):(tS.fits (.str n)=true)=True:=eq_true rfl
@[go_sem] theorem KI(t:Ty)(v:AV):uq t (some v)=if t.fits v=true then some v else none:=rfl
@[go_sem] theorem Oi(e:Ent)(i:Id):fg e.enc i=e.enc:=rfl
@[go_sem] theorem Og(e:Ino)(i:Id):fg e.enc i=e.enc:=rfl
@[go_sem] theorem Oj(e:Dat)(i:Id):fg e.enc i=e.enc:=rfl
@[go_sem] theorem Oh(e:Img)(i:Id):fg e.enc i=e.enc:=rfl
@[go_sem] theorem Ia(e:Ent)(i:Id):e.enc.leads i=false:=rfl
@[go_sem] theorem H8(e:Ino)(i:Id):e.enc.leads i=false:=rfl
@[go_sem] theorem Ib(e:Dat)(i:Id):e.enc.leads i=false:=rfl
@[go_sem] theorem H9(e:Img)(i:Id):e.enc.leads i=false:=rfl
@[go_sem] theorem Il(e:Ent):e.enc.isAgg=true:=rfl
@[go_sem] theorem Ij(e:Ino):e.enc.isAgg=true:=rfl
@[go_sem] theorem Im(e:Dat):e.enc.isAgg=true:=rfl
@[go_sem] theorem Ik(e:Img):e.enc.isAgg=true:=rfl
theorem oP(a b:Int):(AV.int .i64 a).eq (AV.int .i64 b)=some (decide (a=b)):=by
 show some (a==b)=_
 congr 1
theorem BS(a b:Str):(AV.str a).eq (AV.str b)=some (decide (a=b)):=by
 show some (a==b)=_
 congr 1
 cases a with|mk x=>cases b with|mk y=>
 rw[Bool.eq_iff_iff,decide_eq_true_eq,ByteArray.mk.injEq]
 show(x==y)=true↔_
 exact beq_iff_eq
theorem yE(a b:Bool):(AV.bool a).eq (AV.bool b)=some (decide (a=b)):=by
 show some (a==b)=_
 congr 1
theorem nC(a b c d:AV):(AV.cons a b).eq (.cons c d)=iy (a.eq c) (b.eq d):=rfl
theorem nB:AV.unit.eq .unit=some true:=rfl
theorem lI(p:Prop)[Decidable p]:iy (some (decide p)) (some true)=some (decide p):=by
 by_cases hp:p<;>simp[hp,iy]
theorem BV(a b:Ent):a.enc.eq b.enc=some (decide (a=b)):=by
 simp only[Ent.enc,nC,nB,oP,BS,iX,lI]
 congr 1;rw[decide_eq_decide];cases a;cases b;simp
theorem BX(a b:Dat):a.enc.eq b.enc=some (decide (a=b)):=by
 simp only[Dat.enc,nC,nB,oP,BS,iX,lI]
 congr 1;rw[decide_eq_decide];cases a;cases b;simp
theorem BU(a b:Ino):a.enc.eq b.enc=some (decide (a=b)):=by
 have h1:∀v w:Vector Int 2,(bF (AV.int .i64) v).eq (bF (AV.int .i64) w)=some (decide (v=w)):=fun v w=>kF oP
 simp only[Ino.enc]
 simp only[nC,nB,h1,yE,oP,iX,lI]
 congr 1;rw[decide_eq_decide];cases a;cases b;simp
theorem xO(v w:Vector Ent 4):(bF Ent.enc v).eq (bF Ent.enc w)=some (decide (v=w)):=kF BV
theorem GP(a b:Img):a.enc.eq b.enc=some (decide (a=b)):=by
 have h1:∀v w:Vector Ino 8,(bF Ino.enc v).eq (bF Ino.enc w)=some (decide (v=w)):=fun v w=>kF BU
 have h2:∀v w:Vector (Vector Ent 4) 3,(bF (bF Ent.enc) v).eq (bF (bF Ent.enc) w)=some (decide (v=w)):=fun v w=>kF xO
 have h3:∀v w:Vector Dat 9,(bF Dat.enc v).eq (bF Dat.enc w)=some (decide (v=w)):=fun v w=>kF BX
 simp only[Img.enc]
 simp only[nC,nB,h1,h2,h3,iX,lI]
 congr 1;rw[decide_eq_decide];cases a;cases b;simp
theorem jJ{neg:Bool}{x y:AV}(hx:t.eqOk x=true)(hy:t.eqOk y=true)(h:x.eq y=some b):eqV t neg x y=some (.bool (if neg=true then !b else b)):=by
 simp only[eqV,hx,hy,h,Bool.and_self,if_true,Option.map_some]
@[go_sem] theorem M0(neg:Bool)(a b:Ent):eqV aq neg a.enc b.enc=some (.bool (if neg=true then !decide (a=b)else decide (a=b))):=jJ rfl rfl (BV a b)
@[go_sem] theorem MY(neg:Bool)(a b:Ino):eqV aj neg a.enc b.enc=some (.bool (if neg=true then !decide (a=b)else decide (a=b))):=jJ rfl rfl (BU a b)
@[go_sem] theorem M1(neg:Bool)(a b:Dat):eqV cf neg a.enc b.enc=some (.bool (if neg=true then !decide (a=b)else decide (a=b))):=jJ rfl rfl (BX a b)
@[go_sem] theorem MZ(neg:Bool)(a b:Img):eqV ac neg a.enc b.enc=some (.bool (if neg=true then !decide (a=b)else decide (a=b))):=jJ (fa a) (fa b) (GP a b)
@[go_sem] theorem MX(neg:Bool)(a b:Vector Ent 4):eqV dC neg (bF Ent.enc a) (bF Ent.enc b)=some (.bool (if neg=true then !decide (a=b)else decide (a=b))):=jJ (ma a) (ma b) (xO a b)
def Ent.zero:Ent:=⟨ByteArray.empty,0,0⟩
def Dat.zero:Dat:=⟨0,ByteArray.empty⟩
def Ino.zero:Ino:=⟨false,0,0,Vector.replicate 2 0⟩
def Ino.none:Ino:=⟨false,0,0,Vector.replicate 2 (-1)⟩
def Img.zero:Img:=⟨Vector.replicate 8 Ino.zero,Vector.replicate 3 (Vector.replicate 4 Ent.zero),Vector.replicate 9 Dat.zero⟩
theorem iP{f:α->AV}{a:α}(h:t.zero=f a):(Ty.arr n t).zero=bF f (Vector.replicate n a):=by
 simp[Ty.zero,bF,h]
@[go_sem] theorem AM:aq.zero=Ent.zero.enc:=rfl
@[go_sem] theorem AN:cf.zero=Dat.zero.enc:=rfl
theorem wV:cH.zero=bF (AV.int .i64) (Vector.replicate 2 0):=iP (t:=tI) rfl
@[go_sem] theorem AL:aj.zero=Ino.zero.enc:=by
 show AV.cons _ (.cons _ (.cons _ (.cons cH.zero _)))=_
 rw[wV];rfl
@[go_sem] theorem AK:dC.zero=bF Ent.enc (Vector.replicate 4 Ent.zero):=iP AM
@[go_sem] theorem uK:ac.zero=Img.zero.enc:=by
 show AV.cons aK.zero (.cons cI.zero (.cons dD.zero .unit))=_
 rw[show aK.zero=bF Ino.enc (Vector.replicate 8 Ino.zero)from iP AL,show cI.zero=bF (bF Ent.enc) (Vector.replicate 3 (Vector.replicate 4 Ent.zero))from iP AK,show dD.zero=bF Dat.enc (Vector.replicate 9 Dat.zero)from iP AN];rfl
@[go_sem] theorem LU:tI.zero=.int .i64 0:=rfl
@[go_sem] theorem LV:tB.zero=.bool false:=rfl
@[go_sem] theorem LT:tS.zero=.str ByteArray.empty:=rfl
@[go_sem] theorem GI:ac.field 0=some aK:=rfl
@[go_sem] theorem GH:ac.field 1=some cI:=rfl
@[go_sem] theorem GG:ac.field 2=some dD:=rfl
@[go_sem] theorem GF:aj.field 0=some tB:=rfl
@[go_sem] theorem GE:aj.field 1=some tI:=rfl
@[go_sem] theorem GD:aj.field 2=some tI:=rfl
@[go_sem] theorem GC:aj.field 3=some cH:=rfl
@[go_sem] theorem GL:aq.field 0=some tS:=rfl
@[go_sem] theorem GK:aq.field 1=some tI:=rfl
@[go_sem] theorem GJ:aq.field 2=some tI:=rfl
@[go_sem] theorem GN:cf.field 0=some tI:=rfl
@[go_sem] theorem GM:cf.field 1=some tS:=rfl
@[go_sem] theorem Ir(j:Id)(p:List Nat)(i:AV):mh 3 dC (.ptr j p cI) i=mh 3 dC (.ptr j p (.arr 3 dC)) i:=rfl
@[go_sem] theorem Kw(j:Id)(p:List Nat)(i:AV):mh 4 aq (.ptr j p dC) i=mh 4 aq (.ptr j p (.arr 4 aq)) i:=rfl
@[go_sem] theorem E4(j:Id)(p:List Nat)(i:AV):mh 8 aj (.ptr j p aK) i=mh 8 aj (.ptr j p (.arr 8 aj)) i:=rfl
@[go_sem] theorem Gd(j:Id)(p:List Nat)(i:AV):mh 9 cf (.ptr j p dD) i=mh 9 cf (.ptr j p (.arr 9 cf)) i:=rfl
@[go_sem] theorem Gc(j:Id)(p:List Nat)(i:AV):mh 2 tI (.ptr j p cH) i=mh 2 tI (.ptr j p (.arr 2 tI)) i:=rfl
@[go_sem] theorem It(st:Ty)(i:Nat)(ft:Ty)(j:Id)(p:List Nat):BE st i ft (.ptr j p st)=if st.field i=some ft then some (.ptr j (p++[i]) ft)else none:=BD ..
def Img.ent(m:Img)(d s:Nat):Ent:=if h:d<3/\s<4 then(m.dir[d]'h.1)[s]'h.2 else .zero
def Img.ino(m:Img)(n:Nat):Ino:=if h:n<8 then m.inode[n]else .zero
def Img.dat(m:Img)(x:Nat):Dat:=if h:x<9 then m.data[x]else .zero
def Ino.prt(i:Ino)(p:Nat):Int:=if h:p<2 then i.part[p]else 0
@[go_sem] theorem B3(m:Img){d s:Nat}(h:d<3)(h2:s<4):(m.dir[d]'h)[s]'h2=m.ent d s:=by simp[Img.ent,h,h2]
@[go_sem] theorem BA(m:Img)(h:n<8):m.inode[n]'h=m.ino n:=by simp[Img.ino,h]
@[go_sem] theorem B9(m:Img)(h:n<9):m.data[n]'h=m.dat n:=by simp[Img.dat,h]
@[go_sem] theorem NZ(m:Ino)(h:n<2):m.part[n]'h=m.prt n:=by simp[Ino.prt,h]
def sumN:Nat->(Nat->Nat)->Nat
 |0,_=>0
 |n+1,f=>sumN n f+f n
def b2n(b:Bool):Nat:=if b then 1 else 0
theorem o3(b:Bool):b2n b<=1:=by cases b<;>simp[b2n]
theorem fW{f:Nat->Nat}{c:Nat}(h:∀i,f i<=c):∀n,sumN n f<=n*c
 |0=>by simp[sumN]
 |n+1=>by
  have:=fW h n;have:=h n
  rw[sumN,Nat.add_mul,Nat.one_mul];omega
theorem lS(n:Nat)(f:Nat->Nat):sumN (n+1) f=sumN n f+f n:=rfl
def leads(m:Img)(d s:Nat)(i:Int):Bool:=!decide ((m.ent d s).name=⟨#[]⟩)&&decide ((m.ent d s).ino=i)
def fq(m:Img)(i:Int)(d k:Nat):Nat:=sumN k fun s=>b2n (leads m d s i)
def refs(m:Img)(i:Int):Nat:=sumN 3 fun d=>fq m i d 4
theorem i7(m:Img)(i:Int)(d k:Nat):fq m i d k<=k:=by
 have:=fW (fun s=>o3 (leads m d s i)) k;simpa[fq]using this
theorem iJ(m:Img)(i:Int)(d k:Nat):fq m i d (k+1)=fq m i d k+b2n (leads m d k i):=rfl
attribute[go_sem] Int.natCast_add Int.cast_ofNat_Int
@[go_sem] theorem Pa{p:Prop}[Decidable p](h:p):decide p=true:=decide_eq_true h
@[go_sem] theorem Pb{p:Prop}[Decidable p](h:¬p):decide p=false:=decide_eq_false h
theorem fo{T:MTb}{cx:Cx}{keep ko:List Nat}{b:MC}{k:List Item}{Q:St->Prop}(N:Nat)(S:Nat->St)(h0:s.keep keep ko=S 0)
  (step:∀j,j<=N->(∀s',j<N->s'.keep keep ko=S (j+1)->W T cx (.inLoop keep ko b::k) s' Q)->W T cx (.code b:: .inLoop keep ko b::k) (S j) Q):
  W T cx (.code (.loop keep ko b)::k) s Q:=
 x8 N (fun j s=>s=S j) h0 fun j s hj hs ih=>by subst hs;exact step j hj ih
section
variable{cx:Cx}{h:HP}{p:Id}{q:List Nat}{m:Img}
theorem mf{i:Int}(hb:p.below cx.lvl)(hm:h.rd p q=some m.enc):
  Ok tbl cx Fn.bP (St.enter [.ptr p q ac,.int .i64 i] h) fun v h'=>v=.int .i64 (refs m i)/\h'=h:=by
 rw[aE]
 simp(disch:=omega)only[go_sem,St.enter,enterSlots,aw hb,HP.rd_app hm]
 refine fo 3 (fun d=>⟨[(1,.int .i64 i),(5,.int .i64 (sumN d fun d=>fq m i d 4:Nat)),(13,bF (bF Ent.enc) m.dir),(14,.int .i64 d)],[],h⟩) (by simp only[go_sem];rfl) fun d hd ih=>?_
 by_cases hlt:d<3
 ·have hs:=fW (fun d=>i7 m i d 4) d
  simp(disch:=omega)only[go_sem,hlt]
  refine fo 4 (fun s=>⟨[(1,.int .i64 i),(5,.int .i64 ((sumN d fun d=>fq m i d 4)+fq m i d s:Nat)),(13,bF (bF Ent.enc) m.dir),(14,.int .i64 d),(17,bF Ent.enc m.dir[d]),(18,.int .i64 s)],[],h⟩) (by simp only[go_sem];rfl) fun s hs' ih'=>?_
  have hr:=i7 m i d s
  by_cases hlt':s<4
  ·simp(disch:=omega)only[go_sem,hlt']
   refine fd (fun hc=>?_) (fun hc=>?_)<;>simp(disch:=omega)only[go_sem,hc]
   ·refine dq (fun hc'=>?_) (fun hc'=>?_)<;>simp(disch:=omega)only[go_sem]
    ·refine ih' _ hlt' ?_
     simp only[go_sem,iJ,leads,hc,hc',b2n,Int.add_assoc]
    ·refine ih' _ hlt' ?_
     simp only[go_sem,iJ,leads,hc,hc',b2n,Int.add_assoc,Nat.add_zero]
   ·refine ih' _ hlt' ?_
    simp only[go_sem,iJ,leads,hc,b2n,Int.add_assoc,Nat.add_zero]
  ·obtain rfl:s=4:=by omega
   simp(disch:=omega)only[go_sem]
   exact ih _ hlt (by simp only[go_sem,lS])
 ·obtain rfl:d=3:=by omega
  simp(disch:=omega)only[go_sem]
  exact rfl
end
section
variable{T:MTb}{cx:Cx}{k:List Item}{kill:List Nat}{r:List MOp}{sl:Slots}{own:Own}{h:HP}{Q:St->Prop}
theorem eR{b:List Nat}:W T cx (.code (.loop a b c)::k) s Q=W T cx (.code c:: .inLoop a b c::k) (s.keep a b) Q:=W_iff rfl
theorem dK{b:List Nat}:W T cx (.inLoop a b c::k) s Q=W T cx (.code c:: .inLoop a b c::k) (s.keep a b) Q:=W_iff rfl
@[go_sem] theorem enter0:St.enter [] h=⟨[],[],h⟩:=rfl
@[go_sem] theorem enter1(a:AV):St.enter [a] h=⟨[(0,a)],[],h⟩:=rfl
@[go_sem] theorem enter2(a b:AV):St.enter [a,b] h=⟨[(0,a),(1,b)],[],h⟩:=rfl
@[go_sem] theorem enter3(a b c:AV):St.enter [a,b,c] h=⟨[(0,a),(1,b),(2,c)],[],h⟩:=rfl
@[go_sem] theorem enter4(a b c d:AV):St.enter [a,b,c,d] h=⟨[(0,a),(1,b),(2,c),(3,d)],[],h⟩:=rfl
@[go_sem] theorem enter5(a b c d e:AV):St.enter [a,b,c,d,e] h=⟨[(0,a),(1,b),(2,c),(3,d),(4,e)],[],h⟩:=rfl
attribute[go_sem] Nat.reduceAdd Nat.reduceMul Nat.reduceSub Int.reduceAdd Int.reduceToNat Int.reduceLT Int.reduceLE Int.reduceEq Int.reduceMul Int.reduceSub Int.reduceNeg Int.toNat_natCast
@[go_sem] theorem N1(a:Vector Ino 8)(b:Vector (Vector Ent 4) 3)(c:Vector Dat 9):AV.cons (bF Ino.enc a) (.cons (bF (bF Ent.enc) b) (.cons (bF Dat.enc c) .unit))=Img.enc ⟨a,b,c⟩:=rfl
@[go_sem] theorem Pc[inst:Decidable True]:@decide True inst=true:=decide_eq_true trivial
@[go_sem] theorem Pd[inst:Decidable False]:@decide False inst=false:=decide_eq_false id
@[go_sem] theorem Ip(i:Id)(p:List Nat)(t:Ty):AV.into i (.ptr i p t)=true:=by simp[AV.into]
theorem ah{i:Id}{t:Nat}(h:i.below l)(p:List Nat)(u:Ty):AV.apart (.stk l t) (.ptr i p u)=true:=by
 have:(i==Id.stk l t)=false:=by simpa using h.ne
 simp[AV.apart,this]
@[go_sem] theorem Jd(l s t:Nat)(p:List Nat)(u:Ty):AV.apart (.stk l t) (.ptr (.stk l s) p u)= !(s==t):=by
 simp only[AV.apart];congr 1;rw[Bool.eq_iff_iff];simp
@[go_sem] theorem enter6(a b c d e f:AV):St.enter [a,b,c,d,e,f] h=⟨[(0,a),(1,b),(2,c),(3,d),(4,e),(5,f)],[],h⟩:=rfl
def two(x y:Option AV):Option AV:=match x,y with
 |some x,some y=>some (.tup (.cons x (.cons y .unit)))
 |_,_=>none
@[go_sem] theorem Jr(x y:AV):two (some x) (some y)=some (.tup (.cons x (.cons y .unit))):=rfl
def res1(cx:Cx)(s:St)(r:MRes):Option AV:=resOf cx s r
@[go_sem] theorem EM{a b:MRes}:results cx s [a,b]=two (res1 cx s a) (res1 cx s b):=by
 simp only[results,iI,two,res1]
 cases resOf cx s a<;>cases resOf cx s b<;>rfl
@[go_sem] theorem JX{t:Nat}:res1 cx ⟨sl,own,h⟩ (.tmp t)=if(sl.get t).safe=true then some (sl.get t)else none:=rfl
@[go_sem] theorem HF{t:Nat}:res1 cx ⟨sl,own,h⟩ (.cell t ty)=yP cx ⟨sl,own,h⟩ (sl.get t) ty:=rfl
@[go_sem] theorem Oq(a b:AV):BK (.tup (.cons a b)) 0=if a.safe=true then some a else none:=rfl
@[go_sem] theorem Oo(a b c:AV):BK (.tup (.cons a (.cons b c))) 1=if b.safe=true then some b else none:=rfl
@[go_sem] theorem JU(e:Ent):e.enc.safe=true:=rfl
@[go_sem] theorem JS(e:Ino):e.enc.safe=true:=rfl
@[go_sem] theorem JV(e:Dat):e.enc.safe=true:=rfl
@[go_sem] theorem JT(e:Img):e.enc.safe=true:=rfl
end
section
variable{cx:Cx}{h:HP}{p p':Id}{q q':List Nat}{m m':Img}
@[go_sem] theorem KK(t:Ty)(v:AV):fill t v []=some v:=rfl
theorem kQ:Ok tbl cx Fn.cK (St.enter [] h) fun v h'=>v=Ino.none.enc/\h'=h:=by
 rw[aE]
 simp(disch:=omega)only[go_sem,eR,dK]
 exact rfl
theorem iL:Ok tbl cx Fn.fI (St.enter [] h) fun v h'=>v=Ino.none.enc/\h'=h:=by
 rw[aE]
 simp(disch:=omega)only[go_sem,eR,dK]
 exact rfl
def Img.blank:Img:={Img.zero with inode:=Vector.replicate 8 Ino.none}
theorem wS:Ok tbl cx Fn.eI (St.enter [] h) fun v h'=>v=Img.blank.enc/\h'=h:=by
 rw[aE]
 simp(disch:=omega)only[go_sem,eR,dK]
 iterate 8 (
  refine am rfl ⟨rfl,rfl⟩ (by simp only[go_sem];exact iL) ?_
  simp(disch:=omega)only[go_sem,eR,dK])
 exact rfl
theorem CI:Ok tbl cx Fn.cU (St.enter [] h) fun v h'=>v=Img.blank.enc/\h'=h:=by
 rw[aE]
 simp(disch:=omega)only[go_sem,eR,dK]
 iterate 8 (
  refine am rfl ⟨rfl,rfl⟩ (by simp only[go_sem];exact kQ) ?_
  simp(disch:=omega)only[go_sem,eR,dK])
 exact rfl
theorem re{d s:Nat}{i:Int}(hd:d<3)(hs:s<4)(hb:p.below cx.lvl)(hm:h.rd p q=some m.enc):
  Ok tbl cx Fn.jx (St.enter [.ptr p q ac,.int .i64 d,.int .i64 s,.int .i64 i] h) fun v h'=>v=.bool (leads m d s i)/\h'=h:=by
 rw[aE]
 simp(disch:=omega)only[go_sem,aw hb,HP.rd_app hm]
 refine fd (fun hc=>?_) (fun hc=>?_)<;>simp(disch:=omega)only[go_sem,hc,aw hb,HP.rd_app hm]
 all_goals simp only[leads,hc,go_sem]
theorem j6{i:Int}(hb:p.below cx.lvl)(hm:h.rd p q=some m.enc):
  Ok tbl cx Fn.dw (St.enter [.ptr p q ac,.int .i64 i] h) fun v h'=>v=.int .i64 (refs m i)/\h'=h:=by
 rw[aE]
 simp(disch:=omega)only[go_sem,aw hb,HP.rd_app hm]
 refine fo 3 (fun d=>⟨[(0,.ptr p q ac),(1,.int .i64 i),(5,.int .i64 (sumN d fun d=>fq m i d 4:Nat)),(6,.int .i64 d)],[],h⟩) (by simp only[go_sem];rfl) fun d hd ih=>?_
 by_cases hlt:d<3
 ·have hs:=fW (fun d=>i7 m i d 4) d
  simp(disch:=omega)only[go_sem,hlt]
  refine fo 4 (fun s=>⟨[(0,.ptr p q ac),(1,.int .i64 i),(5,.int .i64 ((sumN d fun d=>fq m i d 4)+fq m i d s:Nat)),(6,.int .i64 d),(7,.int .i64 s)],[],h⟩) (by simp only[go_sem];rfl) fun s hs' ih'=>?_
  have hr:=i7 m i d s
  by_cases hlt':s<4
  ·simp(disch:=omega)only[go_sem,hlt']
   refine am rfl ⟨rfl,rfl⟩ (by simp only[go_sem];exact re (m:=m) hlt hlt' hb.succ (by simp only[HP.push_rd_ext hb,hm])) ?_
   simp(disch:=omega)only[go_sem,hlt']
   refine dq (fun hc'=>?_) (fun hc'=>?_)<;>simp(disch:=omega)only[go_sem]<;>refine ih' _ hlt' ?_<;>
     simp only[go_sem,iJ,hc',b2n,Int.add_assoc,Nat.add_zero]
  ·obtain rfl:s=4:=by omega
   simp(disch:=omega)only[go_sem]
   exact ih _ hlt (by simp only[go_sem,lS])
 ·obtain rfl:d=3:=by omega
  simp(disch:=omega)only[go_sem]
  exact rfl
def gU(m m':Img)(i:Int)(d k:Nat):Nat:=sumN k fun s=>b2n (leads m d s i||leads m' d s i)
def both(m m':Img)(i:Int):Nat:=sumN 3 fun d=>gU m m' i d 4
theorem jm(m m':Img)(i:Int)(d k:Nat):gU m m' i d k<=k:=by
 have:=fW (fun s=>o3 (leads m d s i||leads m' d s i)) k;simpa[gU]using this
theorem kL(m m':Img)(i:Int)(d k:Nat):gU m m' i d (k+1)=gU m m' i d k+b2n (leads m d k i||leads m' d k i):=rfl
theorem uJ{i:Int}(hb:p.below cx.lvl)(hm:h.rd p q=some m.enc)(hb':p'.below cx.lvl)(hm':h.rd p' q'=some m'.enc):
  Ok tbl cx Fn.dY (St.enter [.ptr p q ac,.ptr p' q' ac,.int .i64 i] h) fun v h'=>v=.int .i64 (both m m' i)/\h'=h:=by
 rw[aE]
 simp(disch:=omega)only[go_sem]
 refine fo 3 (fun d=>⟨[(0,.ptr p q ac),(1,.ptr p' q' ac),(2,.int .i64 i),(7,.int .i64 (sumN d fun d=>gU m m' i d 4:Nat)),(8,.int .i64 d)],[],h⟩) (by simp only[go_sem];rfl) fun d hd ih=>?_
 by_cases hlt:d<3
 ·have hs:=fW (fun d=>jm m m' i d 4) d
  simp(disch:=omega)only[go_sem,hlt]
  refine fo 4 (fun s=>⟨[(0,.ptr p q ac),(1,.ptr p' q' ac),(2,.int .i64 i),(7,.int .i64 ((sumN d fun d=>gU m m' i d 4)+gU m m' i d s:Nat)),(8,.int .i64 d),(9,.int .i64 s)],[],h⟩) (by simp only[go_sem];rfl) fun s hs' ih'=>?_
  have hr:=jm m m' i d s
  by_cases hlt':s<4
  ·simp(disch:=omega)only[go_sem,hlt']
   refine am rfl ⟨rfl,rfl⟩ (by simp only[go_sem];exact re (m:=m) hlt hlt' hb.succ (by simp only[HP.push_rd_ext hb,hm])) ?_
   simp(disch:=omega)only[go_sem,hlt']
   refine fd (fun hc=>?_) (fun hc=>?_)<;>simp(disch:=omega)only[go_sem,hc]
   ·refine am rfl ⟨rfl,rfl⟩ (by simp only[go_sem];exact re (m:=m') hlt hlt' hb'.succ (by simp only[HP.push_rd_ext hb',hm'])) ?_
    simp(disch:=omega)only[go_sem,hlt']
    refine dq (fun hc'=>?_) (fun hc'=>?_)<;>simp(disch:=omega)only[go_sem]<;>refine ih' _ hlt' ?_<;>
      simp only[go_sem,kL,hc,hc',b2n,Int.add_assoc,Nat.add_zero]
   ·refine ih' _ hlt' ?_
    simp only[go_sem,kL,hc,b2n,Int.add_assoc,Nat.add_zero]
  ·obtain rfl:s=4:=by omega
   simp(disch:=omega)only[go_sem]
   exact ih _ hlt (by simp only[go_sem,lS])
 ·obtain rfl:d=3:=by omega
  simp(disch:=omega)only[go_sem]
  exact rfl
end
section
variable{cx:Cx}{h:HP}{p p':Id}{q q':List Nat}{m m':Img}
theorem CA{i:Int}(hb:p.below cx.lvl)(hm:h.rd p q=some m.enc)(hb':p'.below cx.lvl)(hm':h.rd p' q'=some m'.enc):
  Ok tbl cx Fn.bL (St.enter [.ptr p q ac,.ptr p' q' ac,.int .i64 i] h) fun v h'=>v=.int .i64 (both m m' i)/\h'=h:=by
 rw[aE]
 simp(disch:=omega)only[go_sem]
 refine fo 3 (fun d=>⟨[(0,.ptr p q ac),(1,.ptr p' q' ac),(2,.int .i64 i),(7,.int .i64 (sumN d fun d=>gU m m' i d 4:Nat)),(12,.int .i64 d)],[],h⟩) (by simp only[go_sem]<;>rfl) fun d hd ih=>?_
 by_cases hlt:d<3
 ·have hs:=fW (fun d=>jm m m' i d 4) d
  simp(disch:=omega)only[go_sem,hlt]
  refine fo 4 (fun s=>⟨[(0,.ptr p q ac),(1,.ptr p' q' ac),(2,.int .i64 i),(7,.int .i64 ((sumN d fun d=>gU m m' i d 4)+gU m m' i d s:Nat)),(8,.int .i64 d),(12,.int .i64 d),(15,.int .i64 s)],[],h⟩) (by simp only[go_sem]<;>rfl) fun s hs' ih'=>?_
  have hr:=jm m m' i d s
  by_cases hlt':s<4
  ·simp(disch:=omega)only[go_sem,hlt',aw hb,HP.rd_app hm,au hb,af hb,ah hb,aw hb',HP.rd_app hm',au hb',af hb',ah hb']
   refine fd (fun h1=>?_) (fun h1=>?_)<;>simp(disch:=omega)only[go_sem,h1]
   all_goals refine fd (fun h2=>?_) (fun h2=>?_)<;>simp(disch:=omega)only[go_sem,h2]
   all_goals try refine fd (fun h3=>?_) (fun h3=>?_)<;>simp(disch:=omega)only[go_sem,h3]
   all_goals try refine dq (fun h4=>?_) (fun h4=>?_)<;>simp(disch:=omega)only[go_sem,h4]
   all_goals refine ih' _ hlt' ?_
   all_goals (clear ih ih';simp only[go_sem,kL,leads,b2n,Int.add_assoc,Nat.add_zero, *])
  ·obtain rfl:s=4:=by omega
   simp(disch:=omega)only[go_sem]
   exact ih _ hlt (by simp only[go_sem,lS])
 ·obtain rfl:d=3:=by omega
  simp(disch:=omega)only[go_sem]
  exact rfl
end
def Img.setIno(m:Img)(n:Nat)(y:Ino):Img:={m with inode:=m.inode.setIfInBounds n y}
def Img.setDat(m:Img)(n:Nat)(y:Dat):Img:={m with data:=m.data.setIfInBounds n y}
def Img.setEnt(m:Img)(d s:Nat)(y:Ent):Img:=if h:d<3 then{m with dir:=m.dir.set d (m.dir[d].setIfInBounds s y)}else m
def Ino.setPrt(i:Ino)(p:Nat)(x:Int):Ino:={i with part:=i.part.setIfInBounds p x}
theorem kg(v:Vector α n)(h:i<n)(x:α):v.set i x h=v.setIfInBounds i x:=by
 ext j hj;simp[Vector.getElem_set,Vector.getElem_setIfInBounds]
@[go_sem] theorem HV(m:Img)(y:Ino)(h:n<8):Img.mk (m.inode.set n y h) m.dir m.data=m.setIno n y:=by rw[kg];rfl
@[go_sem] theorem HX(m:Img)(y:Dat)(h:n<9):Img.mk m.inode m.dir (m.data.set n y h)=m.setDat n y:=by rw[kg];rfl
@[go_sem] theorem HW(m:Img){d s:Nat}(y:Ent)(h:d<3)(h':s<4):Img.mk m.inode (m.dir.set d ((m.dir[d]'h).set s y h') h) m.data=m.setEnt d s y:=by rw[kg (m.dir[d]'h)];simp only[Img.setEnt,h,dite_true]
@[go_sem] theorem HU(i:Ino){p:Nat}(x:Int)(h:p<2):Ino.mk i.live i.stamp i.links (i.part.set p x h)=i.setPrt p x:=by rw[kg];rfl
@[go_sem] theorem g8(m:Img)(n:Nat)(y:Ino)(j:Nat):(m.setIno n y).ino j=if n=j/\j<8 then y else m.ino j:=by
 simp only[Img.ino,Img.setIno]
 by_cases hj:j<8
 ·simp only[hj,dite_true,and_true,Vector.getElem_setIfInBounds]
 ·simp[hj]
@[go_sem] theorem rA(m:Img)(n:Nat)(y:Ino)(j:Nat):(m.setIno n y).dat j=m.dat j:=rfl
@[go_sem] theorem ji(m:Img)(n:Nat)(y:Ino)(d s:Nat):(m.setIno n y).ent d s=m.ent d s:=rfl
@[go_sem] theorem kI(m:Img)(n:Nat)(y:Dat)(j:Nat):(m.setDat n y).dat j=if n=j/\j<9 then y else m.dat j:=by
 simp only[Img.dat,Img.setDat]
 by_cases hj:j<9
 ·simp only[hj,dite_true,and_true,Vector.getElem_setIfInBounds]
 ·simp[hj]
@[go_sem] theorem mM(m:Img)(n:Nat)(y:Dat)(j:Nat):(m.setDat n y).ino j=m.ino j:=rfl
@[go_sem] theorem mQ(m:Img)(n:Nat)(y:Dat)(d s:Nat):(m.setDat n y).ent d s=m.ent d s:=rfl
@[go_sem] theorem rh(m:Img)(d s:Nat)(y:Ent)(j:Nat):(m.setEnt d s y).ino j=m.ino j:=by simp only[Img.setEnt];split<;>rfl
@[go_sem] theorem xP(m:Img)(d s:Nat)(y:Ent)(j:Nat):(m.setEnt d s y).dat j=m.dat j:=by simp only[Img.setEnt];split<;>rfl
theorem kG(m:Img)(d s:Nat)(y:Ent)(d' s':Nat):(m.setEnt d s y).ent d' s'=if(d=d'/\s=s')/\d'<3/\s'<4 then y else m.ent d' s':=by
 simp only[Img.setEnt]
 by_cases hd:d<3
 ·simp only[hd,dite_true,Img.ent]
  by_cases h:d'<3/\s'<4
  ·simp only[h,dite_true,and_self,and_true,Vector.getElem_set]
   by_cases e:d=d'
   ·subst e;simp[Vector.getElem_setIfInBounds]
   ·simp[e]
  ·simp[h]
 ·simp only[hd,dite_false]
  by_cases e:d=d'
  ·subst e;simp[hd]
  ·simp[e]
@[go_sem] theorem mH(i:Ino)(p:Nat)(x:Int)(j:Nat):(i.setPrt p x).prt j=if p=j/\j<2 then x else i.prt j:=by
 simp only[Ino.prt,Ino.setPrt]
 by_cases hj:j<2
 ·simp only[hj,dite_true,and_true,Vector.getElem_setIfInBounds]
 ·simp[hj]
theorem Img.ext_of{m m':Img}(h1:∀n,n<8->m.ino n=m'.ino n)(h2:∀d s,d<3->s<4->m.ent d s=m'.ent d s)(h3:∀x,x<9->m.dat x=m'.dat x):m=m':=by
 cases m with|mk a b c=>cases m' with|mk a' b' c'=>
 congr 1
 ·ext1 n hn;have:=h1 n hn;simpa[Img.ino,hn]using this
 ·ext1 d hd;ext1 s hs;have:=h2 d s hd hs;simpa[Img.ent,hd,hs]using this
 ·ext1 n hn;have:=h3 n hn;simpa[Img.dat,hn]using this
@[go_sem] theorem EZ(i:Ino)(p:Nat)(x:Int):(i.setPrt p x).live=i.live:=rfl
@[go_sem] theorem Ds(i:Ino)(p:Nat)(x:Int):(i.setPrt p x).stamp=i.stamp:=rfl
@[go_sem] theorem DN(i:Ino)(p:Nat)(x:Int):(i.setPrt p x).links=i.links:=rfl
def fX:Str:=⟨#[105,110,111,100,101,115]⟩
def m8:Str:=⟨#[100,105,114]⟩
def jw:Str:=⟨#[100,97,116,97]⟩
def kT:Str:=⟨#[]⟩
def cj(b:Int):Str×Int:=
 if b<0\/14<=b then(kT,0)else if b<2 then(fX,b*4)else if b<5 then(m8,b-2)else(jw,b-5)
section
variable{cx:Cx}{h:HP}{p p':Id}{q q':List Nat}{m m':Img}
theorem tA(b:Int):b=0\/b=1\/b=2\/b=3\/b=4\/b=5\/b=6\/b=7\/b=8\/b=9\/b=10\/b=11\/b=12\/b=13\/b<0\/14<=b:=by omega
theorem wR{b:Int}:Ok tbl cx Fn.ct (St.enter [.int .i64 b] h) fun v h'=>v=.tup (.cons (.str (cj b).1) (.cons (.int .i64 (cj b).2) .unit))/\h'=h:=by
 rw[aE]
 rcases tA b with rfl|rfl|rfl|rfl|rfl|rfl|rfl|rfl|rfl|rfl|rfl|rfl|rfl|rfl|hb|hb
 all_goals simp(disch:=omega)only[go_sem,eR,dK]
 all_goals first|rfl|simp only[cj,hb,true_or,or_true,if_true];rfl
theorem rV{b:Int}:Ok tbl cx Fn.be (St.enter [.int .i64 b] h) fun v h'=>v=.tup (.cons (.str (cj b).1) (.cons (.int .i64 (cj b).2) .unit))/\h'=h:=by
 rw[aE]
 rcases tA b with rfl|rfl|rfl|rfl|rfl|rfl|rfl|rfl|rfl|rfl|rfl|rfl|rfl|rfl|hb|hb
 all_goals simp(disch:=omega)only[go_sem,eR,dK]
 all_goals first|rfl|simp only[cj,hb,true_or,or_true,if_true];rfl
end
def part(now disk:Img)(n p:Nat):Int:=
 let x:=(now.ino n).prt p
 if x<0\/9<=x then -1 else if(disk.dat x.toNat).of=(now.ino n).stamp then x
  else if(disk.ino n).live=true/\(disk.ino n).stamp=(now.ino n).stamp then(disk.ino n).prt p else -1
def fY(now disk:Img)(n:Nat):Ino:=
 if(now.ino n).live=true then⟨(now.ino n).live,(now.ino n).stamp,both now disk n,#v[part now disk n 0,part now disk n 1]⟩
 else if(disk.ino n).live=true/\0<both now disk n then{disk.ino n with links:=both now disk n}else Ino.none
section
variable{cx:Cx}{h:HP}{p p':Id}{q q':List Nat}{m m':Img}
theorem yq(hn:n<8)(hj:j<2)(hb:p.below cx.lvl)(hm:h.rd p q=some m.enc)(hb':p'.below cx.lvl)(hm':h.rd p' q'=some m'.enc):
  Ok tbl cx Fn.cC (St.enter [.ptr p q ac,.ptr p' q' ac,.int .i64 n,.int .i64 j] h) fun v h'=>v=.int .i64 (part m m' n j)/\h'=h:=by
 rw[aE]
 simp(disch:=omega)only[go_sem,aw hb,HP.rd_app hm,au hb,af hb,ah hb,aw hb',HP.rd_app hm',au hb',af hb',ah hb']
 by_cases h0:(m.ino n).prt j<0
 ·simp(disch:=omega)only[go_sem,h0];simp only[part,h0,true_or,if_true]
 by_cases h9:9<=(m.ino n).prt j
 ·simp(disch:=omega)only[go_sem,h0,h9];simp only[part,h9,or_true,if_true]
 simp(disch:=omega)only[go_sem,h0,h9,aw hb,HP.rd_app hm,au hb,af hb,ah hb,aw hb',HP.rd_app hm',au hb',af hb',ah hb']
 have hx:¬((m.ino n).prt j<0\/9<=(m.ino n).prt j):=by omega
 refine dq (fun h1=>?_) (fun h1=>?_)<;>simp(disch:=omega)only[go_sem,h1,aw hb,HP.rd_app hm,au hb,af hb,ah hb,aw hb',HP.rd_app hm',au hb',af hb',ah hb']
 ·simp only[decide_eq_true_eq]at h1
  simp only[part,hx,h1,if_true,if_false]
 simp only[decide_eq_false_iff_not]at h1
 refine fd (fun h2=>?_) (fun h2=>?_)<;>simp(disch:=omega)only[go_sem,h2,aw hb,HP.rd_app hm,au hb,af hb,ah hb,aw hb',HP.rd_app hm',au hb',af hb',ah hb']
 ·refine dq (fun h3=>?_) (fun h3=>?_)<;>simp(disch:=omega)only[go_sem,h3,aw hb,HP.rd_app hm,au hb,af hb,ah hb,aw hb',HP.rd_app hm',au hb',af hb',ah hb']
  ·simp only[decide_eq_true_eq]at h3
   simp only[part,hx,h1,h2,h3,if_true,if_false,and_self]
  ·simp only[decide_eq_false_iff_not]at h3
   simp only[part,hx,h1,h2,h3,if_true,if_false,and_false]
 ·simp[part,hx,h1,h2]
@[go_sem] theorem set01(v:Vector Int 2)(a b:Int)(h:0<2)(h':1<2):(v.set 0 a h).set 1 b h'=#v[a,b]:=by
 ext i hi
 obtain rfl|rfl:i=0\/i=1:=by omega
 all_goals simp
theorem CU(hn:n<8)(hb:p.below cx.lvl)(hm:h.rd p q=some m.enc)(hb':p'.below cx.lvl)(hm':h.rd p' q'=some m'.enc):
  Ok tbl cx Fn.bC (St.enter [.ptr p q ac,.ptr p' q' ac,.int .i64 n] h) fun v h'=>v=(fY m m' n).enc/\h'=h:=by
 rw[aE]
 simp(disch:=omega)only[go_sem,aw hb,HP.rd_app hm,au hb,af hb,ah hb,aw hb',HP.rd_app hm',au hb',af hb',ah hb']
 refine am rfl ⟨rfl,rfl⟩ (by simp only[go_sem];exact CA (m:=m) (m':=m') hb.succ (by simp only[HP.push_rd_ext hb,hm]) hb'.succ (by simp only[HP.push_rd_ext hb',hm'])) ?_
 simp(disch:=omega)only[go_sem,aw hb,HP.rd_app hm,au hb,af hb,ah hb,aw hb',HP.rd_app hm',au hb',af hb',ah hb']
 refine dq (fun h1=>?_) (fun h1=>?_)<;>simp(disch:=omega)only[go_sem,h1,aw hb,HP.rd_app hm,au hb,af hb,ah hb,aw hb',HP.rd_app hm',au hb',af hb',ah hb']
 ·refine fd (fun h2=>?_) (fun h2=>?_)<;>simp(disch:=omega)only[go_sem,h2,aw hb,HP.rd_app hm,au hb,af hb,ah hb,aw hb',HP.rd_app hm',au hb',af hb',ah hb']
  ·refine dq (fun h3=>?_) (fun h3=>?_)<;>simp(disch:=omega)only[go_sem,h3,aw hb,HP.rd_app hm,au hb,af hb,ah hb,aw hb',HP.rd_app hm',au hb',af hb',ah hb']
   ·simp at h1 h3
    simp[fY,h1,h2,h3]
   ·refine am rfl ⟨rfl,rfl⟩ (by simp only[go_sem];exact kQ) ?_
    simp(disch:=omega)only[go_sem]
    simp at h1 h3
    simp[fY,h1,h2,h3]
  ·refine am rfl ⟨rfl,rfl⟩ (by simp only[go_sem];exact kQ) ?_
   simp(disch:=omega)only[go_sem]
   simp at h1 h2
   simp[fY,h1,h2]
 ·simp only[eR,dK]
  simp(disch:=omega)only[go_sem]
  refine am rfl ⟨rfl,rfl⟩ (by simp only[go_sem];exact yq (n:=n) (j:=0) (m:=m) (m':=m') hn (by omega) hb.succ (by simp only[HP.push_rd_ext hb,hm]) hb'.succ (by simp only[HP.push_rd_ext hb',hm'])) ?_
  simp(disch:=omega)only[go_sem,eR,dK]
  refine am rfl ⟨rfl,rfl⟩ (by simp only[go_sem];exact yq (n:=n) (j:=1) (m:=m) (m':=m') hn (by omega) hb.succ (by simp only[HP.push_rd_ext hb,hm]) hb'.succ (by simp only[HP.push_rd_ext hb',hm'])) ?_
  simp(disch:=omega)only[go_sem,eR,dK]
  simp at h1
  simp[fY,h1]
def prts(now disk:Img)(n j:Nat):Vector Int 2:=Vector.ofFn fun p:Fin 2=>if p.val<j then part now disk n p else(now.ino n).prt p
@[go_sem] theorem Mi(h:j<2):(prts m m' n j)[j]'h=(m.ino n).prt j:=by simp[prts]
theorem jP(h:j<2){x:Int}(hx:x=part m m' n j):(prts m m' n j).set j x h=prts m m' n (j+1):=by
 ext i hi
 simp only[prts,Vector.getElem_set,Vector.getElem_ofFn]
 by_cases e:j=i
 ·subst e;simp[hx]
 ·have:(i<j+1)=(i<j):=by apply propext;omega
  simp[e,this]
theorem zF(h:j<2)(hx:(m.ino n).prt j=part m m' n j):prts m m' n (j+1)=prts m m' n j:=by
 rw[←jP h hx]
 ext i hi
 simp only[Vector.getElem_set]
 by_cases e:j=i
 ·subst e;simp[prts]
 ·simp[e]
theorem FW(n:Nat):prts m m' n 0=(m.ino n).part:=by
 ext i hi;simp[prts,Ino.prt,hi]
theorem FV(n:Nat):prts m m' n 2=#v[part m m' n 0,part m m' n 1]:=by
 ext i hi
 obtain rfl|rfl:i=0\/i=1:=by omega
 all_goals simp[prts]
theorem ye(hn:n<8)(hb:p.below cx.lvl)(hm:h.rd p q=some m.enc)(hb':p'.below cx.lvl)(hm':h.rd p' q'=some m'.enc):
  Ok tbl cx Fn.bq (St.enter [.ptr p q ac,.ptr p' q' ac,.int .i64 n] h) fun v h'=>v=(fY m m' n).enc/\h'=h:=by
 rw[aE]
 simp(disch:=omega)only[go_sem,aw hb,HP.rd_app hm,au hb,af hb,ah hb,aw hb',HP.rd_app hm',au hb',af hb',ah hb']
 refine dq (fun h1=>?_) (fun h1=>?_)<;>simp(disch:=omega)only[go_sem,h1,aw hb,HP.rd_app hm,au hb,af hb,ah hb,aw hb',HP.rd_app hm',au hb',af hb',ah hb']
 ·simp at h1
  refine fd (fun h2=>?_) (fun h2=>?_)<;>simp(disch:=omega)only[go_sem,h2,aw hb,HP.rd_app hm,au hb,af hb,ah hb,aw hb',HP.rd_app hm',au hb',af hb',ah hb']
  ·simp at h2
   refine am rfl ⟨rfl,rfl⟩ (by simp only[go_sem];exact uJ (m:=m) (m':=m') hb.succ (by simp only[HP.push_rd_ext hb,hm]) hb'.succ (by simp only[HP.push_rd_ext hb',hm'])) ?_
   simp(disch:=omega)only[go_sem,aw hb,HP.rd_app hm,au hb,af hb,ah hb,aw hb',HP.rd_app hm',au hb',af hb',ah hb']
   refine dq (fun h3=>?_) (fun h3=>?_)<;>simp(disch:=omega)only[go_sem,h3,aw hb,HP.rd_app hm,au hb,af hb,ah hb,aw hb',HP.rd_app hm',au hb',af hb',ah hb']
   ·refine am rfl ⟨rfl,rfl⟩ (by simp only[go_sem];exact iL) ?_
    simp(disch:=omega)only[go_sem]
    simp at h3
    simp[fY,h1,h2,h3]
   ·refine am rfl ⟨rfl,rfl⟩ (by simp only[go_sem];exact uJ (m:=m) (m':=m') hb.succ (by simp only[HP.push_rd_ext hb,hm]) hb'.succ (by simp only[HP.push_rd_ext hb',hm'])) ?_
    simp(disch:=omega)only[go_sem,aw hb,HP.rd_app hm,au hb,af hb,ah hb,aw hb',HP.rd_app hm',au hb',af hb',ah hb']
    simp at h3
    have h4:0<both m m' n:=by omega
    simp[fY,h1,h2,h4]
  ·simp at h2
   refine am rfl ⟨rfl,rfl⟩ (by simp only[go_sem];exact iL) ?_
   simp(disch:=omega)only[go_sem]
   simp[fY,h1,h2]
 ·simp at h1
  refine am rfl ⟨rfl,rfl⟩ (by simp only[go_sem];exact uJ (m:=m) (m':=m') hb.succ (by simp only[HP.push_rd_ext hb,hm]) hb'.succ (by simp only[HP.push_rd_ext hb',hm'])) ?_
  simp(disch:=omega)only[go_sem,aw hb,HP.rd_app hm,au hb,af hb,ah hb,aw hb',HP.rd_app hm',au hb',af hb',ah hb']
  refine fo 2 (fun j=>⟨[(1,.ptr p' q' ac),(2,.int .i64 n),(6,.ptr (.stk cx.lvl 6) [] aj),(7,.ptr (.stk cx.lvl 7) [] aj),(8,.int .i64 j)],
   [(6,⟨aj,Ino.zero.enc⟩),(7,⟨aj,Ino.enc ⟨(m.ino n).live,(m.ino n).stamp,both m m' n,prts m m' n j⟩⟩)],h⟩) (by simp only[go_sem,FW]) fun j hj ih=>?_
  by_cases hlt:j<2
  ·simp(disch:=omega)only[go_sem,aw hb,HP.rd_app hm,au hb,af hb,ah hb,aw hb',HP.rd_app hm',au hb',af hb',ah hb',hlt]
   by_cases h0:(m.ino n).prt j<0
   ·simp(disch:=omega)only[go_sem,h0,hlt]
    refine ih _ hlt ?_
    simp only[go_sem,part,h0,true_or,if_true,jP hlt]
   by_cases h9:9<=(m.ino n).prt j
   ·simp(disch:=omega)only[go_sem,h0,h9,hlt]
    refine ih _ hlt ?_
    simp only[go_sem,part,h9,or_true,if_true,jP hlt]
   simp(disch:=omega)only[go_sem,h0,h9,aw hb,HP.rd_app hm,au hb,af hb,ah hb,aw hb',HP.rd_app hm',au hb',af hb',ah hb',hlt]
   have hx:¬((m.ino n).prt j<0\/9<=(m.ino n).prt j):=by omega
   refine dq (fun h2=>?_) (fun h2=>?_)<;>simp(disch:=omega)only[go_sem,h2,aw hb,HP.rd_app hm,au hb,af hb,ah hb,aw hb',HP.rd_app hm',au hb',af hb',ah hb',hlt]
   ·simp only[decide_eq_true_eq]at h2
    refine ih _ hlt ?_
    have:=zF (m:=m) (m':=m') (n:=n) hlt (by simp only[part,hx,h2,if_true,if_false])
    simp only[go_sem,this]
   simp only[decide_eq_false_iff_not]at h2
   refine fd (fun h3=>?_) (fun h3=>?_)<;>simp(disch:=omega)only[go_sem,h3,aw hb,HP.rd_app hm,au hb,af hb,ah hb,aw hb',HP.rd_app hm',au hb',af hb',ah hb',hlt]
   ·refine dq (fun h4=>?_) (fun h4=>?_)<;>simp(disch:=omega)only[go_sem,h4,aw hb,HP.rd_app hm,au hb,af hb,ah hb,aw hb',HP.rd_app hm',au hb',af hb',ah hb',hlt]
    ·simp only[decide_eq_true_eq]at h4
     refine ih _ hlt ?_
     simp only[go_sem]
     rw[jP hlt (by simp only[part,hx,h2,h3,h4,if_true,if_false,and_self])]
    ·simp only[decide_eq_false_iff_not]at h4
     refine ih _ hlt ?_
     simp only[go_sem]
     rw[jP hlt (by simp only[part,hx,h2,h3,h4,if_true,if_false,and_false])]
   ·refine ih _ hlt ?_
    simp only[go_sem]
    rw[jP hlt (by simp[part,hx,h2,h3])]
  ·obtain rfl:j=2:=by omega
   simp(disch:=omega)only[go_sem]
   simp[fY,h1,FV]
end
end Go.Mini
