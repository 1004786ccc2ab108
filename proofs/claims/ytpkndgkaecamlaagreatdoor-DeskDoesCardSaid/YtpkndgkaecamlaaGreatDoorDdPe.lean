/- A part of the proof: what Dd computes, step by step. -/
import Derived.Test.YtpkndgkaecamlaaGreatDoorDdPd
import Derived.Lib.ItoaNum
import Derived.Lib.Join

set_option linter.unusedVariables false
set_option linter.unusedSimpArgs false
set_option maxHeartbeats 4000000
set_option maxRecDepth 100000
set_option linter.unusedSectionVars false
set_option linter.unnecessarySimpa false
namespace Go.Mini
namespace Fn
abbrev bH.r0:=[oN 1 (.box false aD (.s 0)),oC 2 0]
abbrev bH.r1:=[oE 4 aD 0 tI 1,oL 5 tI 4,oI 6 .lss 5 1,oM 7 6,zE 8 aD 0 tI 1 7,zL 9 tI 8 7,zB 10 .gtr 9 6 7,oO 11 7 10]
abbrev bH.r2:=[oC 2 7]
abbrev bH.r3:=[oE 12 aD 1 tI 1,oL 13 tI 12,oE 14 aD 4 tS 1,oL 15 tS 14,oA 16 232 [(.s 13),(.s 15)],oM 3 16]
abbrev bH.r4:=[oM 17 3,oI 18 .neq 17 0]
abbrev bH.r5:=[oM 19 3,oM 2 19]
abbrev bH.r6:=[oE 20 aD 0 tI 1,oL 21 tI 20,oI 22 .eql 21 2,oM 23 22,zE 24 aD 0 tI 1 23,zL 25 tI 24 23,zB 26 .eql 25 4 23,oO 27 23 26]
abbrev bH.r7:=[oE 28 aD 2 tI 1,oL 29 tI 28,oE 30 aD 5 tS 1,oL 31 tS 30,oA 32 232 [(.s 29),(.s 31)],oM 2 32]
abbrev bH.r8:=[oE 33 aD 0 tI 1,oL 34 tI 33,oI 35 .eql 34 5,oM 36 35,zE 37 aD 0 tI 1 36,zL 38 tI 37 36,zB 39 .eql 38 6 36,oO 40 36 39,oM 41 40,pE 42 aD 3 tI 1 41,pL 43 tI 42 41,oG 44 (.bin .lss (.s 43) (qI 0)) 41,oT 45 44 41,zE 46 aD 3 tI 1 45,zL 47 tI 46 45,zB 48 .geq 47 2 45,oG 49 (.pick (.s 45) qT (.s 48)) 41,oQ 50 41 49]
abbrev bH.r9:=[oC 2 1]
abbrev bH.r10:=[oE 51 aD 0 tI 1,oL 52 tI 51,oI 53 .eql 52 5,oM 54 53,pE 55 aD 6 tS 1 54,pL 56 tS 55 54,oG 57 (.len true (.s 56)) 54,oG 58 (.bin .gtr (.s 57) (qI 8)) 54,oQ 59 54 58]
abbrev bH.r11:=[oC 2 3]
abbrev bH.r12:=[oC 2 0]
abbrev bH.body:=gS (gR bH.r0 [0,2]) (gS (gS (gR bH.r1 [4,5,6,7,8,9,10]) (gC 11 (gS (gR bH.r2 []) .ret) .skip)) (gS (gS (gR bH.r3 [12,13,14,15,16]) (gS (gR bH.r4 [17]) (gC 18 (gS (gR bH.r5 [3,19]) .ret) .skip))) (gS (gS (gR bH.r6 [20,21,22,23,24,25,26]) (gC 27 (gS (gR bH.r7 [1,28,29,30,31,32]) .ret) .skip)) (gS (gS (gR bH.r8 [33,34,35,36,37,38,39,40,41,42,43,44,45,46,47,48,49]) (gC 50 (gS (gR bH.r9 []) .ret) .skip)) (gS (gS (gR bH.r10 [1,51,52,53,54,55,56,57,58]) (gC 59 (gS (gR bH.r11 []) .ret) .skip)) (gS (gR bH.r12 []) .ret))))))
abbrev bH:=gF 1 [.tmp 2] bH.body
abbrev aI.r0:=[oN 1 (.box false aD (.s 0)),oC 2 0]
abbrev aI.r1:=[oE 3 aD 0 tI 1,oL 4 tI 3,oI 5 .lss 4 1,oM 6 5,zE 7 aD 0 tI 1 6,zL 8 tI 7 6,zB 9 .gtr 8 6 6,oO 10 6 9]
abbrev aI.r2:=[oC 2 7]
abbrev aI.r3:=[oE 11 aD 1 tI 1,oL 12 tI 11,oI 13 .lss 12 0,oM 14 13,zE 15 aD 1 tI 1 14,zL 16 tI 15 14,zB 17 .geq 16 3 14,oO 18 14 17]
abbrev aI.r4:=[oC 2 1]
abbrev aI.r5:=[oE 19 aD 4 tS 1,oL 20 tS 19,oA 21 15 [(.s 20)],pU 22 21]
abbrev aI.r6:=[oC 2 2]
abbrev aI.r7:=[oE 23 aD 0 tI 1,oL 24 tI 23]
abbrev aI.r8:=[oI 26 .eql 24 2,oM 25 26]
abbrev aI.r9:=[oI 27 .eql 24 4,oM 25 27]
abbrev aI.r10:=[oE 28 aD 2 tI 1,oL 29 tI 28,oI 30 .lss 29 0,oM 31 30,zE 32 aD 2 tI 1 31,zL 33 tI 32 31,zB 34 .geq 33 3 31,oO 35 31 34]
abbrev aI.r11:=[oC 2 1]
abbrev aI.r12:=[oE 36 aD 5 tS 1,oL 37 tS 36,oA 38 15 [(.s 37)],pU 39 38]
abbrev aI.r13:=[oC 2 2]
abbrev aI.r14:=[oI 41 .eql 24 5,oM 40 41]
abbrev aI.r15:=[oI 42 .eql 24 6,oM 40 42]
abbrev aI.r16:=[oE 43 aD 3 tI 1,oL 44 tI 43,oI 45 .lss 44 0,oM 46 45,zE 47 aD 3 tI 1 46,zL 48 tI 47 46,zB 49 .geq 48 2 46,oO 50 46 49]
abbrev aI.r17:=[oC 2 1]
abbrev aI.r18:=[oE 51 aD 0 tI 1,oL 52 tI 51,oI 53 .eql 52 5,oM 54 53,pE 55 aD 6 tS 1 54,pL 56 tS 55 54,oG 57 (.len true (.s 56)) 54,oG 58 (.bin .gtr (.s 57) (qI 8)) 54,oQ 59 54 58]
abbrev aI.r19:=[oC 2 3]
abbrev aI.r20:=[oC 2 0]
abbrev aI.body:=gS (gR aI.r0 [0,2]) (gS (gS (gR aI.r1 [3,4,5,6,7,8,9]) (gC 10 (gS (gR aI.r2 []) .ret) .skip)) (gS (gS (gR aI.r3 [11,12,13,14,15,16,17]) (gC 18 (gS (gR aI.r4 []) .ret) .skip)) (gS (gS (gR aI.r5 [19,20,21]) (gC 22 (gS (gR aI.r6 []) .ret) .skip)) (gS (gS (gR aI.r7 [23]) (.block 0 (gS (gS (gR aI.r8 [26]) (gC 25 .skip (gR aI.r9 [27]))) (gC 25 (gS (gS (gR aI.r10 [28,29,30,31,32,33,34]) (gC 35 (gS (gR aI.r11 []) .ret) .skip)) (gS (gR aI.r12 [1,36,37,38]) (gC 39 (gS (gR aI.r13 []) .ret) .skip))) (gS (gS (gR aI.r14 [41]) (gC 40 .skip (gR aI.r15 [24,42]))) (gC 40 (gS (gS (gR aI.r16 [43,44,45,46,47,48,49]) (gC 50 (gS (gR aI.r17 []) .ret) .skip)) (gS (gR aI.r18 [1,51,52,53,54,55,56,57,58]) (gC 59 (gS (gR aI.r19 []) .ret) .skip))) .skip)))))) (gS (gR aI.r20 []) .ret)))))
abbrev aI:=gF 1 [.tmp 2] aI.body
abbrev ba.r0:=[pC 4 (.c .nilsl)]
abbrev ba.r1:=[pC 5 (.c .nilsl)]
abbrev ba.r2:=[oC 6 0]
abbrev ba.r3:=[oM 10 6,oM 11 0,oK 12 11,oE 13 (.cons tSl (.cons tSl .unit)) 0 tSl 12,oL 14 tSl 13,oY 15 14,oB 16 .lss 10 15]
abbrev ba.r4:=[oM 17 6,oI 18 .add 17 1,oM 6 18]
abbrev ba.r5:=[oM 19 0,oK 20 19,oE 21 (.cons tSl (.cons tSl .unit)) 0 tSl 20,oL 22 tSl 21,oM 23 6,oX 24 (.cons tI (.cons tS (.cons tI .unit))) 22 23,oE 25 (.cons tI (.cons tS (.cons tI .unit))) 0 tI 24,oL 26 tI 25,oM 27 1,oB 28 .neq 26 27]
abbrev ba.r6:=[oM 29 0,oK 30 29,oE 31 (.cons tSl (.cons tSl .unit)) 0 tSl 30,oL 32 tSl 31,oM 33 6,oX 34 (.cons tI (.cons tS (.cons tI .unit))) 32 33,oE 35 (.cons tI (.cons tS (.cons tI .unit))) 1 tS 34,oL 36 tS 35,oM 7 36]
abbrev ba.r7:=[pC 8 (.c .nilsl)]
abbrev ba.r8:=[oC 9 0]
abbrev ba.r9:=[oM 37 9,oM 38 5,oY 39 38,oB 40 .lss 37 39,oM 41 40,oT 42 5 41,oT 43 9 41,oG 44 (.sidx false tS (.s 42) (.s 43)) 41,pL 45 tS 44 41,oT 46 7 41,pB 47 .lss 45 46 41,oQ 48 41 47]
abbrev ba.r10:=[oM 49 9,oI 50 .add 49 1,oM 9 50]
abbrev ba.r11:=[oM 51 8,oM 52 5,oM 53 9,oN 54 (.slice none tS (.s 52) none (some (.s 53)) none),oN 55 (.append true [1000002] tS (.s 51) (.s 54)),oM 56 7,oN 57 (.bslice false tS 1 [(0,(.s 56))]),oN 58 (.append true [5] tS (.s 55) (.s 57)),oM 59 5,oM 60 9,oN 61 (.slice (some 5) tS (.s 59) (some (.s 60)) none none),oN 62 (.append true [] tS (.s 58) (.s 61)),oM 8 62]
abbrev ba.r12:=[oM 63 8,oM 5 63]
abbrev ba.r13:=[oM 64 5,oM 4 64]
abbrev ba.body:=gS (gR ba.r0 [4]) (gS (gR ba.r1 []) (gS (gS (gR ba.r2 []) (.block 0 (.loop [0,1,5,6] [55,58,62] (gS (gS (gR ba.r3 [10,11,12,13,14,15]) (gC 16 .skip (.exit 0))) (gS (.block 1 (gS (gS (gR ba.r5 [19,20,21,22,23,24,25,26,27]) (gC 28 (.exit 1) .skip)) (gS (gR ba.r6 [29,30,31,32,33,34,35,36]) (gS (gR ba.r7 []) (gS (gR ba.r8 []) (gS (.block 2 (.loop [0,1,5,6,7,8,9] [55,58,62] (gS (gS (gR ba.r9 [37,38,39,40,41,42,43,44,45,46,47]) (gC 48 .skip (.exit 2))) (.block 3 (gR ba.r10 [49,50]))))) (gS (gT ba.r11 [5,7,9,51,52,53,54,55,56,57,58,59,60,61,62]) (gR ba.r12 [8,63])))))))) (gR ba.r4 [17,18])))))) (gS (gR ba.r13 [5,64]) .ret)))
abbrev ba:=gF 2 [.tmp 4] ba.body
abbrev cQ.r0:=[oC 4 0]
abbrev cQ.r1:=[oM 6 0,oI 7 .lss 6 0,oM 8 7,oF 9 0 8,zB 10 .geq 9 3 8,oO 11 8 10,oM 5 11]
abbrev cQ.r2:=[oC 4 1]
abbrev cQ.r3:=[oM 13 1,oA 14 14 [(.s 13)],pU 15 14,oM 12 15]
abbrev cQ.r4:=[oC 4 2]
abbrev cQ.r5:=[oC 4 0]
abbrev cQ.body:=gS (gR cQ.r0 [4]) (gS (.block 0 (gS (gR cQ.r1 [0,6,7,8,9,10,11]) (gC 5 (gS (gR cQ.r2 []) .ret) (gS (gR cQ.r3 [1,13,14,15]) (gC 12 (gS (gR cQ.r4 []) .ret) .skip))))) (gS (gR cQ.r5 []) .ret))
abbrev cQ:=gF 2 [.tmp 4] cQ.body
abbrev dF.r0:=[oM 5 0,oY 6 5,oM 4 6]
abbrev dF.r1:=[oM 7 0,oM 8 4,oM 9 4,oN 10 (.conv .u64 (.s 9)),oA 11 240 [(.s 10)],oM 12 1,oA 13 241 [(.s 7),(qI 0),(.s 8),(.s 11),(.s 12)]]
abbrev dF.body:=gS (gR dF.r0 [5,6]) (gR dF.r1 [0,1,4,7,8,9,10,11,12,13])
abbrev dF:=gF 2 [] dF.body
abbrev dL.r0:=[oC 2 0]
abbrev dL.r1:=[oM 3 0,oN 4 (.conv .u32 (.s 3)),oA 5 253 [(.s 4)],oM 2 5]
abbrev dL.r2:=[oM 6 0,oA 7 252 [(.s 6)],oM 2 7]
abbrev dL.body:=gS (gR dL.r0 [2]) (gS (.cond qF (gS (gR dL.r1 [0,3,4,5]) .ret) .skip) (gS (gR dL.r2 [0,6,7]) .ret))
abbrev dL:=gF 1 [.tmp 2] dL.body
abbrev ai.r0:=[pC 10 qT]
abbrev ai.r1:=[pC 11 qT]
abbrev ai.r2:=[oM 21 2,oM 22 1,oB 23 .sub 21 22,oM 12 23]
abbrev ai.r3:=[oM 24 12,oI 25 .leq 24 12]
abbrev ai.r4:=[oM 26 0,oM 27 1,oM 28 2,oM 29 4,oA 30 251 [(.s 26),(.s 27),(.s 28),(.s 29)]]
abbrev ai.r5:=[oM 31 3,oI 32 .eql 31 0]
abbrev ai.r6:=[oM 33 0,oM 34 1,oM 35 2,oM 36 4,oA 37 250 [(.s 33),(.s 34),(.s 35),(.s 36)]]
abbrev ai.r7:=[oM 38 10,pU 39 38]
abbrev ai.r8:=[oM 40 0,oM 41 1,oM 42 2,oM 43 4,oA 44 249 [(.s 40),(.s 41),(.s 42),(.s 43)]]
abbrev ai.r9:=[oM 45 3,oI 46 .sub 45 1,oM 3 46]
abbrev ai.r10:=[oM 48 0,oM 49 1,oM 50 2,oM 51 4,oA 52 248 [(.s 48),(.s 49),(.s 50),(.s 51)],oM 47 52,oZ 53 47 0,oZ 54 47 1,oM 13 53,oM 14 54]
abbrev ai.r11:=[oM 55 14,oI 56 .eql 55 2]
abbrev ai.r12:=[oM 57 0,oM 58 1,oM 59 2,oM 60 4,oA 61 247 [(.s 57),(.s 58),(.s 59),(.s 60)]]
abbrev ai.r13:=[oM 62 2,oI 63 .sub 62 1,oM 64 13,oM 65 1,oB 66 .sub 64 65,oB 67 .sub 63 66,oM 13 67]
abbrev ai.r14:=[oC 14 1]
abbrev ai.r15:=[oM 68 10,oM 69 68,oT 70 11 69,oQ 71 69 70,oM 72 71,oT 73 14 72,oG 74 (.bin .eql (.s 73) (qI 1)) 72,oQ 75 72 74]
abbrev ai.r16:=[oM 76 0,oM 77 1,oM 78 2,oM 79 4,oA 80 246 [(.s 76),(.s 77),(.s 78),(.s 79)]]
abbrev ai.r17:=[oM 81 1,oI 82 .gtr 81 0,oM 83 82,oT 84 4 83,oT 85 0 83,oT 86 1 83,oG 87 (.bin .sub (.s 86) (qI 1)) 83,oG 88 (.sidx false tS (.s 85) (.s 87)) 83,pL 89 tS 88 83,oT 90 0 83,oT 91 13 83,oG 92 (.sidx false tS (.s 90) (.s 91)) 83,pL 93 tS 92 83,oG 94 (.callv false [] (.s 84) [(.s 89),(.s 93)]) 83,oG 95 (.bin .lss (.s 94) (qI 0)) 83,oG 96 (.un .not (.s 95)) 83,oQ 97 83 96]
abbrev ai.r18:=[oM 98 0,oM 99 1,oM 100 2,oM 101 13,oM 102 4,oA 103 245 [(.s 98),(.s 99),(.s 100),(.s 101),(.s 102)],oM 15 103]
abbrev ai.r19:=[oM 104 15,oM 1 104]
abbrev ai.r20:=[oM 106 0,oM 107 1,oM 108 2,oM 109 13,oM 110 4,oA 111 244 [(.s 106),(.s 107),(.s 108),(.s 109),(.s 110)],oM 105 111,oZ 112 105 0,oZ 113 105 1,oM 16 112,oM 17 113]
abbrev ai.r21:=[oM 114 17,oM 11 114]
abbrev ai.r22:=[oM 115 16,oM 116 1,oB 117 .sub 115 116,oM 118 2,oM 119 16,oB 120 .sub 118 119,oM 18 117,oM 19 120]
abbrev ai.r23:=[oM 121 12,oI 122 .quo 121 8,oM 20 122]
abbrev ai.r24:=[oM 123 18,oM 124 19,oB 125 .lss 123 124]
abbrev ai.r25:=[oM 126 18,oM 127 20,oB 128 .geq 126 127,oM 10 128]
abbrev ai.r26:=[oM 129 0,oM 130 1,oM 131 16,oM 132 3,oM 133 4,oA 134 241 [(.s 129),(.s 130),(.s 131),(.s 132),(.s 133)]]
abbrev ai.r27:=[oM 135 16,oI 136 .add 135 1,oM 1 136]
abbrev ai.r28:=[oM 137 19,oM 138 20,oB 139 .geq 137 138,oM 10 139]
abbrev ai.r29:=[oM 140 0,oM 141 16,oI 142 .add 141 1,oM 143 2,oM 144 3,oM 145 4,oA 146 241 [(.s 140),(.s 142),(.s 143),(.s 144),(.s 145)]]
abbrev ai.r30:=[oM 147 16,oM 2 147]
abbrev ai.body:=gS (gR ai.r0 []) (gS (gR ai.r1 []) (.block 0 (.loop [0,1,2,3,4,10,11] [] (.block 1 (gS (gR ai.r2 [21,22,23]) (gS (gS (gR ai.r3 [24]) (gC 25 (gS (gR ai.r4 [0,1,2,4,26,27,28,29,30]) .ret) .skip)) (gS (gS (gR ai.r5 [31]) (gC 32 (gS (gR ai.r6 [0,1,2,4,33,34,35,36,37]) .ret) .skip)) (gS (gS (gR ai.r7 [38]) (gC 39 (gS (gR ai.r8 [40,41,42,43,44]) (gR ai.r9 [45,46])) .skip)) (gS (gR ai.r10 [47,48,49,50,51,52,53,54]) (gS (gS (gR ai.r11 [55]) (gC 56 (gS (gR ai.r12 [57,58,59,60,61]) (gS (gR ai.r13 [62,63,64,65,66,67]) (gR ai.r14 []))) .skip)) (gS (gS (gR ai.r15 [14,68,69,70,71,72,73,74]) (gC 75 (gS (gR ai.r16 [76,77,78,79]) (gC 80 .ret .skip)) .skip)) (gS (gS (gT ai.r17 [81,82,83,84,85,86,87,88,89,90,91,92,93,94,95,96]) (gC 97 (gS (gR ai.r18 [1,13,98,99,100,101,102,103]) (gS (gR ai.r19 [15,104]) (.exit 1))) .skip)) (gS (gR ai.r20 [13,105,106,107,108,109,110,111,112,113]) (gS (gR ai.r21 [17,114]) (gS (gR ai.r22 [115,116,117,118,119,120]) (gS (gR ai.r23 [12,121,122]) (gS (gR ai.r24 [123,124]) (gC 125 (gS (gR ai.r25 [18,20,126,127,128]) (gS (gR ai.r26 [1,129,130,131,132,133,134]) (gR ai.r27 [16,135,136]))) (gS (gR ai.r28 [19,20,137,138,139]) (gS (gR ai.r29 [2,140,141,142,143,144,145,146]) (gR ai.r30 [16,147])))))))))))))))))))))
abbrev ai:=gF 5 [] ai.body
abbrev bB.r0:=[oC 4 0]
abbrev bB.r1:=[oM 7 0,oA 8 243 [(.s 7)],oM 5 8]
abbrev bB.r2:=[oM 9 1,oA 10 243 [(.s 9)],oM 6 10]
abbrev bB.r3:=[oM 11 5]
abbrev bB.r4:=[oM 12 6]
abbrev bB.r5:=[oC 4 0]
abbrev bB.r6:=[pC 4 (qI (-1))]
abbrev bB.r7:=[oM 13 6]
abbrev bB.r8:=[oC 4 1]
abbrev bB.r9:=[oM 14 0,oM 15 1,oB 16 .lss 14 15]
abbrev bB.r10:=[pC 4 (qI (-1))]
abbrev bB.r11:=[oM 17 0,oM 18 1,oB 19 .gtr 17 18]
abbrev bB.r12:=[oC 4 1]
abbrev bB.r13:=[oC 4 0]
abbrev bB.body:=gS (gR bB.r0 [4]) (gS (gR bB.r1 [7,8]) (gS (gR bB.r2 [9,10]) (gS (gS (gR bB.r3 [5]) (gC 11 (gS (gS (gR bB.r4 [6]) (gC 12 (gS (gR bB.r5 []) .ret) .skip)) (gS (gR bB.r6 []) .ret)) .skip)) (gS (gS (gR bB.r7 [6]) (gC 13 (gS (gR bB.r8 []) .ret) .skip)) (gS (gS (gR bB.r9 [14,15]) (gC 16 (gS (gR bB.r10 []) .ret) .skip)) (gS (gS (gR bB.r11 [0,1,17,18]) (gC 19 (gS (gR bB.r12 []) .ret) .skip)) (gS (gR bB.r13 []) .ret)))))))
abbrev bB:=gF 2 [.tmp 4] bB.body
abbrev gG.r0:=[pC 2 qF]
abbrev gG.r1:=[oM 3 0,oM 4 0,oB 5 .neq 3 4,oM 2 5]
abbrev gG.body:=gS (gR gG.r0 [2]) (gS (gR gG.r1 [0,3,4,5]) .ret)
abbrev gG:=gF 1 [.tmp 2] gG.body
abbrev aB.r0:=[oM 10 1,oI 11 .add 10 1,oM 8 11]
abbrev aB.r1:=[oM 12 8,oM 13 2,oB 14 .lss 12 13]
abbrev aB.r2:=[oM 15 8,oI 16 .add 15 1,oM 8 16]
abbrev aB.r3:=[oM 17 8,oM 9 17]
abbrev aB.r4:=[oM 18 9,oM 19 1,oB 20 .gtr 18 19,oM 21 20,oT 22 3 21,oT 23 0 21,oT 24 9 21,oG 25 (.sidx false tS (.s 23) (.s 24)) 21,pL 26 tS 25 21,oT 27 0 21,oT 28 9 21,oG 29 (.bin .sub (.s 28) (qI 1)) 21,oG 30 (.sidx false tS (.s 27) (.s 29)) 21,pL 31 tS 30 21,oG 32 (.callv false [] (.s 22) [(.s 26),(.s 31)]) 21,oG 33 (.bin .lss (.s 32) (qI 0)) 21,oQ 34 21 33]
abbrev aB.r5:=[oM 35 9,oI 36 .sub 35 1,oM 9 36]
abbrev aB.r6:=[oM 37 0,oM 38 9,oM 39 0,oM 40 9,oI 41 .sub 40 1,oM 42 0,oM 43 9,oI 44 .sub 43 1,oX 45 tS 42 44,oL 46 tS 45,oM 47 0,oM 48 9,oX 49 tS 47 48,oL 50 tS 49,oX 51 tS 37 38,oS tS 51 46,oX 52 tS 39 41,oS tS 52 50]
abbrev aB.body:=gS (gR aB.r0 [10,11]) (.block 0 (.loop [0,1,2,3,8] [] (gS (gS (gR aB.r1 [12,13]) (gC 14 .skip (.exit 0))) (gS (.block 1 (gS (gR aB.r3 [17]) (.block 2 (.loop [0,1,2,3,8,9] [] (gS (gS (gT aB.r4 [18,19,20,21,22,23,24,25,26,27,28,29,30,31,32,33]) (gC 34 .skip (.exit 2))) (gS (.block 3 (gT aB.r6 [37,38,39,40,41,42,43,44,45,46,47,48,49,50,51,52])) (gR aB.r5 [35,36]))))))) (gR aB.r2 [15,16])))))
abbrev aB:=gF 4 [] aB.body
abbrev aV.r0:=[oC 2 0]
abbrev aV.r1:=[oM 3 0,oN 4 (.bin .geq (.s 3) (.c (.int .u64 4294967296)))]
abbrev aV.r2:=[oM 5 0,oN 6 (.bin .shr (.s 5) (.c (.int .u64 32))),oM 0 6]
abbrev aV.r3:=[oC 2 32]
abbrev aV.r4:=[oM 7 0,oN 8 (.bin .geq (.s 7) (.c (.int .u64 65536)))]
abbrev aV.r5:=[oM 9 0,oN 10 (.bin .shr (.s 9) (.c (.int .u64 16))),oM 0 10]
abbrev aV.r6:=[oM 11 2,oI 12 .add 11 16,oM 2 12]
abbrev aV.r7:=[oM 13 0,oN 14 (.bin .geq (.s 13) (.c (.int .u64 256)))]
abbrev aV.r8:=[oM 15 0,oN 16 (.bin .shr (.s 15) (.c (.int .u64 8))),oM 0 16]
abbrev aV.r9:=[oM 17 2,oI 18 .add 17 8,oM 2 18]
abbrev aV.r10:=[oM 19 2,oM 20 0,oN 21 (.conv .u8 (.s 20)),oN 22 (.stridx (qS #[0,1,2,2,3,3,3,3,4,4,4,4,4,4,4,4,5,5,5,5,5,5,5,5,5,5,5,5,5,5,5,5,6,6,6,6,6,6,6,6,6,6,6,6,6,6,6,6,6,6,6,6,6,6,6,6,6,6,6,6,6,6,6,6,7,7,7,7,7,7,7,7,7,7,7,7,7,7,7,7,7,7,7,7,7,7,7,7,7,7,7,7,7,7,7,7,7,7,7,7,7,7,7,7,7,7,7,7,7,7,7,7,7,7,7,7,7,7,7,7,7,7,7,7,7,7,7,7,8,8,8,8,8,8,8,8,8,8,8,8,8,8,8,8,8,8,8,8,8,8,8,8,8,8,8,8,8,8,8,8,8,8,8,8,8,8,8,8,8,8,8,8,8,8,8,8,8,8,8,8,8,8,8,8,8,8,8,8,8,8,8,8,8,8,8,8,8,8,8,8,8,8,8,8,8,8,8,8,8,8,8,8,8,8,8,8,8,8,8,8,8,8,8,8,8,8,8,8,8,8,8,8,8,8,8,8,8,8,8,8,8,8,8,8,8,8,8,8,8,8,8,8,8,8,8,8]) (.s 21)),oN 23 (.conv .i64 (.s 22)),oB 24 .add 19 23,oM 2 24]
abbrev aV.body:=gS (gR aV.r0 []) (gS (gS (gR aV.r1 [3]) (gC 4 (gS (gR aV.r2 [5,6]) (gR aV.r3 [])) .skip)) (gS (gS (gR aV.r4 [7]) (gC 8 (gS (gR aV.r5 [9,10]) (gR aV.r6 [11,12])) .skip)) (gS (gS (gR aV.r7 [13]) (gC 14 (gS (gR aV.r8 [15,16]) (gR aV.r9 [17,18])) .skip)) (gS (gR aV.r10 [0,19,20,21,22,23,24]) .ret))))
abbrev aV:=gF 1 [.tmp 2] aV.body
abbrev cZ.r0:=[pC 10 qF]
abbrev cZ.r1:=[oM 13 0,oK 14 13,oE 15 tFiles 0 tP 14,oL 16 tP 15,oK 17 16,oE 18 tCache 0 ac 17,oM 19 1,oM 20 2,oN 21 (.call true [] 19 [(.s 18),(.s 19),(.s 20)]),oM 22 0,oK 23 22,oE 24 tFiles 0 tP 23,oL 25 tP 24,oK 26 25,oE 27 tCache 0 ac 26,oM 28 3,oM 29 4,oA 30 19 [(.s 27),(.s 28),(.s 29)],oM 11 21,oM 12 30]
abbrev cZ.r2:=[oM 31 11,oI 32 .geq 31 0,oM 33 32,oT 34 12 33,oG 35 (.bin .geq (.s 34) (qI 0)) 33,oQ 36 33 35,oM 37 36,oT 38 0 37,pK 39 38 37,pE 40 tFiles 0 tP 39 37,pL 41 tP 40 37,oT 42 1 37,oT 43 11 37,pK 44 41 37,pE 45 tCache 0 ac 44 37,pE 46 ac 1 cI 45 37,pJ 47 3 dC 46 42 37,pJ 48 4 aq 47 43 37,pE 49 aq 1 tI 48 37,pL 50 tI 49 37,oT 51 0 37,pK 52 51 37,pE 53 tFiles 0 tP 52 37,pL 54 tP 53 37,oT 55 3 37,oT 56 12 37,pK 57 54 37,pE 58 tCache 0 ac 57 37,pE 59 ac 1 cI 58 37,pJ 60 3 dC 59 55 37,pJ 61 4 aq 60 56 37,pE 62 aq 1 tI 61 37,pL 63 tI 62 37,pB 64 .eql 50 63 37,oQ 65 37 64,oM 10 65]
abbrev cZ.body:=gS (gR cZ.r0 [10]) (gS (gT cZ.r1 [2,4,13,14,15,16,17,18,19,20,21,22,23,24,25,26,27,28,29,30]) (gS (gT cZ.r2 [0,1,3,11,12,31,32,33,34,35,36,37,38,39,40,41,42,43,44,45,46,47,48,49,50,51,52,53,54,55,56,57,58,59,60,61,62,63,64,65]) .ret))
abbrev cZ:=gF 5 [.tmp 10] cZ.body
abbrev cG.r0:=[pC 6 qF]
abbrev cG.r1:=[oM 9 0,oK 10 9,oE 11 tFiles 0 tP 10,oL 12 tP 11,oK 13 12,oE 14 tCache 0 ac 13,oM 15 1,oM 16 2,oA 17 19 [(.s 14),(.s 15),(.s 16)],oM 7 17]
abbrev cG.r2:=[oM 18 0,oK 19 18,oE 20 tFiles 0 tP 19,oL 21 tP 20,oA 22 203 [(.s 21)],pN 8 ac,oS ac 8 22]
abbrev cG.r3:=[oM 23 7,oI 24 .geq 23 0,oM 25 24,oT 26 1 25,oT 27 7 25,pE 28 ac 1 cI 8 25,pJ 29 3 dC 28 26 25,pJ 30 4 aq 29 27 25,pL 31 aq 30 25,oT 32 0 25,pK 33 32 25,pE 34 tFiles 0 tP 33 25,pL 35 tP 34 25,oT 36 1 25,oT 37 7 25,pK 38 35 25,pE 39 tCache 0 ac 38 25,pE 40 ac 1 cI 39 25,pJ 41 3 dC 40 36 25,pJ 42 4 aq 41 37 25,pL 43 aq 42 25,oG 44 (.eq false aq (.s 31) (.s 43)) 25,oQ 45 25 44,oM 6 45]
abbrev cG.body:=gS (gR cG.r0 [6]) (gS (gR cG.r1 [2,9,10,11,12,13,14,15,16,17]) (gS (gR cG.r2 [18,19,20,21,22]) (gS (gT cG.r3 [0,1,7,8,23,24,25,26,27,28,29,30,31,32,33,34,35,36,37,38,39,40,41,42,43,44,45]) .ret)))
abbrev cG:=gF 3 [.tmp 6] cG.body
abbrev aU.r0:=[pC 8 (qS #[]),pC 9 qF,oC 10 0]
abbrev aU.r1:=[oM 14 1,oM 15 2,oM 16 3,oN 17 (.build aD [(0,(qI 6)),(1,(.s 14)),(4,(.s 15)),(3,(.s 16))]),oA 18 216 [(.s 17)],oM 11 18]
abbrev aU.r2:=[oM 19 11,oI 20 .neq 19 0]
abbrev aU.r3:=[oM 21 11,pC 8 (qS #[]),pC 9 qF,oM 10 21]
abbrev aU.r4:=[oM 22 0,oK 23 22,oE 24 tFiles 0 tP 23,oL 25 tP 24,oK 26 25,oE 27 tCache 0 ac 26,oM 28 1,oM 29 2,oA 30 19 [(.s 27),(.s 28),(.s 29)],oM 12 30]
abbrev aU.r5:=[oM 31 12,oI 32 .lss 31 0]
abbrev aU.r6:=[pC 8 (qS #[]),pC 9 qF,oC 10 5]
abbrev aU.r7:=[oM 33 0,oK 34 33,oE 35 tFiles 0 tP 34,oL 36 tP 35,oM 37 0,oK 38 37,oE 39 tFiles 0 tP 38,oL 40 tP 39,oM 41 1,oM 42 12,oK 43 40,oE 44 tCache 0 ac 43,oE 45 ac 1 cI 44,oJ 46 3 dC 45 41,oJ 47 4 aq 46 42,oE 48 aq 1 tI 47,oL 49 tI 48,oM 50 3,oK 51 36,oE 52 tCache 0 ac 51,oE 53 ac 0 aK 52,oJ 54 8 aj 53 49,oE 55 aj 3 cH 54,oJ 56 2 tI 55 50,oL 57 tI 56,oM 13 57]
abbrev aU.r8:=[oM 58 13,oI 59 .lss 58 0]
abbrev aU.r9:=[pC 8 (qS #[]),pC 9 qF,oC 10 0]
abbrev aU.r10:=[oM 60 0,oK 61 60,oE 62 tFiles 0 tP 61,oL 63 tP 62,oM 64 13,oK 65 63,oE 66 tCache 0 ac 65,oE 67 ac 2 dD 66,oJ 68 9 cf 67 64,oE 69 cf 1 tS 68,oL 70 tS 69,oM 8 70,pC 9 qT,oC 10 0]
abbrev aU.body:=gS (gR aU.r0 [8,9,10]) (gS (gS (gR aU.r1 [14,15,16,17,18]) (gS (gR aU.r2 [19]) (gC 20 (gS (gR aU.r3 [11,21]) .ret) .skip))) (gS (gR aU.r4 [2,22,23,24,25,26,27,28,29,30]) (gS (gS (gR aU.r5 [31]) (gC 32 (gS (gR aU.r6 []) .ret) .skip)) (gS (gT aU.r7 [1,3,12,33,34,35,36,37,38,39,40,41,42,43,44,45,46,47,48,49,50,51,52,53,54,55,56,57]) (gS (gS (gR aU.r8 [58]) (gC 59 (gS (gR aU.r9 []) .ret) .skip)) (gS (gR aU.r10 [0,13,60,61,62,63,64,65,66,67,68,69,70]) .ret))))))
abbrev aU:=gF 4 [.tmp 8,.tmp 9,.tmp 10] aU.body
abbrev aO.r0:=[pC 4 (.c .nilsl)]
abbrev aO.r1:=[pC 5 (.c .nilsl)]
abbrev aO.r2:=[oM 8 1,oI 9 .lss 8 0,oM 10 9,oF 11 1 10,zB 12 .geq 11 3 10,oO 13 10 12]
abbrev aO.r3:=[pC 4 (.c .nilsl)]
abbrev aO.r4:=[oM 14 0,oK 15 14,oE 16 tFiles 0 tP 15,oL 17 tP 16,oM 18 1,oK 19 17,oE 20 tCache 0 ac 19,oE 21 ac 1 cI 20,oJ 22 3 dC 21 18,oL 23 dC 22,oC 24 0]
abbrev aO.r5:=[oI 25 .lss 24 4]
abbrev aO.r6:=[oN 26 (.aidx 4 aq (.s 23) (.s 24)),pN 7 aq,oS aq 7 26]
abbrev aO.r7:=[oE 27 aq 0 tS 7,oL 28 tS 27,pV 29 .neq 28 (qS #[])]
abbrev aO.r8:=[oM 30 5,oE 31 aq 0 tS 7,oL 32 tS 31,oN 33 (.bslice false tS 1 [(0,(.s 32))]),oN 34 (.append true [] tS (.s 30) (.s 33)),oM 5 34]
abbrev aO.r9:=[oI 35 .add 24 1,oM 24 35]
abbrev aO.r10:=[oM 36 5,oA 37 236 [(.s 36),(.f 289)]]
abbrev aO.r11:=[oM 38 5,oM 4 38]
abbrev aO.body:=gS (gR aO.r0 [4]) (gS (gR aO.r1 []) (gS (gS (gR aO.r2 [8,9,10,11,12]) (gC 13 (gS (gR aO.r3 []) .ret) .skip)) (gS (gS (gR aO.r4 [0,1,14,15,16,17,18,19,20,21,22]) (.block 0 (.loop [5,23,24] [34] (gS (gR aO.r5 []) (gS (gC 25 .skip (.exit 0)) (gS (.block 1 (gS (gR aO.r6 [26]) (gS (gR aO.r7 [27,28]) (gC 29 (gR aO.r8 [7,30,31,32,33,34]) .skip)))) (gR aO.r9 [35]))))))) (gS (gR aO.r10 [36,37]) (gS (gR aO.r11 [5,38]) .ret)))))
abbrev aO:=gF 2 [.tmp 4] aO.body
abbrev ch.r0:=[pC 4 (.c .nilsl)]
abbrev ch.r1:=[oN 7 (.build (.cons tSl (.cons tSl .unit)) []),oN 8 (.box false (.cons tSl (.cons tSl .unit)) (.s 7)),oM 5 8]
abbrev ch.r2:=[oM 9 1,oI 10 .lss 9 0,oM 11 10,oF 12 1 11,zB 13 .geq 12 3 11,oO 14 11 13]
abbrev ch.r3:=[pC 4 (.c .nilsl)]
abbrev ch.r4:=[oC 6 0]
abbrev ch.r5:=[oM 15 6,oI 16 .lss 15 4]
abbrev ch.r6:=[oM 17 6,oI 18 .add 17 1,oM 6 18]
abbrev ch.r7:=[oM 19 0,oM 20 1,oM 21 6,oK 22 19,oE 23 tBed 0 ac 22,oE 24 ac 1 cI 23,oJ 25 3 dC 24 20,oJ 26 4 aq 25 21,oE 27 aq 0 tS 26,oL 28 tS 27,pV 29 .neq 28 (qS #[])]
abbrev ch.r8:=[oM 30 5,oM 31 5,oK 32 31,oE 33 (.cons tSl (.cons tSl .unit)) 0 tSl 32,oL 34 tSl 33,oM 35 1,oM 36 0,oM 37 1,oM 38 6,oK 39 36,oE 40 tBed 0 ac 39,oE 41 ac 1 cI 40,oJ 42 3 dC 41 37,oJ 43 4 aq 42 38,oE 44 aq 0 tS 43,oL 45 tS 44,oN 46 (.build (.cons tI (.cons tS (.cons tI .unit))) [(0,(.s 35)),(1,(.s 45)),(2,(qI 0))]),oN 47 (.bslice false (.cons tI (.cons tS (.cons tI .unit))) 1 [(0,(.s 46))]),oN 48 (.append true [] (.cons tI (.cons tS (.cons tI .unit))) (.s 34) (.s 47)),oK 49 30,oE 50 (.cons tSl (.cons tSl .unit)) 0 tSl 49,oS tSl 50 48]
abbrev ch.r9:=[oM 51 5,oM 52 1,oA 53 223 [(.s 51),(.s 52)],oM 4 53]
abbrev ch.body:=gS (gR ch.r0 [4]) (gS (gR ch.r1 [7,8]) (gS (gS (gR ch.r2 [9,10,11,12,13]) (gC 14 (gS (gR ch.r3 []) .ret) .skip)) (gS (gS (gR ch.r4 []) (.block 0 (.loop [0,1,5,6] [8] (gS (gS (gR ch.r5 [15]) (gC 16 .skip (.exit 0))) (gS (.block 1 (gS (gR ch.r7 [19,20,21,22,23,24,25,26,27,28]) (gC 29 (gT ch.r8 [30,31,32,33,34,35,36,37,38,39,40,41,42,43,44,45,46,47,48,49,50]) .skip))) (gR ch.r6 [17,18])))))) (gS (gR ch.r9 [1,5,51,52,53]) .ret))))
abbrev ch:=gF 2 [.tmp 4] ch.body
abbrev az.r0:=[oN 3 (.box false aD (.s 1)),oC 4 0]
abbrev az.r1:=[oL 9 aD 3,oA 10 216 [(.s 9)],oM 5 10]
abbrev az.r2:=[oM 11 5,oI 12 .neq 11 0]
abbrev az.r3:=[oM 13 5,oM 4 13]
abbrev az.r4:=[oE 14 aD 0 tI 3,oL 15 tI 14,oI 16 .eql 15 1]
abbrev az.r5:=[oM 17 0,oE 18 aD 1 tI 3,oL 19 tI 18,oE 20 aD 4 tS 3,oL 21 tS 20,oA 22 293 [(.s 17),(.s 19),(.s 21)],oM 4 22]
abbrev az.r6:=[oM 23 0,oK 24 23,oE 25 tFiles 0 tP 24,oL 26 tP 25,oK 27 26,oE 28 tCache 0 ac 27,oE 29 aD 1 tI 3,oL 30 tI 29,oE 31 aD 4 tS 3,oL 32 tS 31,oA 33 19 [(.s 28),(.s 30),(.s 32)],oM 6 33]
abbrev az.r7:=[oM 34 6,oI 35 .lss 34 0]
abbrev az.r8:=[oC 4 5]
abbrev az.r9:=[oM 36 0,oK 37 36,oE 38 tFiles 0 tP 37,oL 39 tP 38,oE 40 aD 1 tI 3,oL 41 tI 40,oM 42 6,oK 43 39,oE 44 tCache 0 ac 43,oE 45 ac 1 cI 44,oJ 46 3 dC 45 41,oJ 47 4 aq 46 42,oE 48 aq 1 tI 47,oL 49 tI 48,oM 7 49]
abbrev az.r10:=[oE 50 aD 0 tI 3,oL 51 tI 50]
abbrev az.r11:=[oI 53 .eql 51 2,oM 52 53]
abbrev az.r12:=[oM 54 0,oE 55 aD 2 tI 3,oL 56 tI 55,oE 57 aD 5 tS 3,oL 58 tS 57,oM 59 7,oA 60 290 [(.s 54),(.s 56),(.s 58),(.s 59)],oM 4 60]
abbrev az.r13:=[oI 62 .eql 51 4,oM 61 62]
abbrev az.r14:=[oM 63 0,oE 64 aD 2 tI 3,oL 65 tI 64,oE 66 aD 5 tS 3,oL 67 tS 66,oM 68 7,oA 69 290 [(.s 63),(.s 65),(.s 67),(.s 68)],oM 8 69]
abbrev az.r15:=[oM 70 8,oI 71 .neq 70 0]
abbrev az.r16:=[oM 72 8,oM 4 72]
abbrev az.r17:=[oM 73 0,oE 74 aD 1 tI 3,oL 75 tI 74,oM 76 6,oA 77 291 [(.s 73),(.s 75),(.s 76)]]
abbrev az.r18:=[oI 79 .eql 51 3,oM 78 79]
abbrev az.r19:=[oM 80 0,oE 81 aD 1 tI 3,oL 82 tI 81,oM 83 6,oA 84 291 [(.s 80),(.s 82),(.s 83)]]
abbrev az.r20:=[oI 86 .eql 51 5,oM 85 86]
abbrev az.r21:=[oM 87 0,oM 88 7,oE 89 aD 3 tI 3,oL 90 tI 89,oE 91 aD 6 tS 3,oL 92 tS 91,oA 93 292 [(.s 87),(.s 88),(.s 90),(.s 92)],oM 4 93]
abbrev az.r22:=[oI 95 .eql 51 6,oM 94 95]
abbrev az.r23:=[oM 96 0,oK 97 96,oE 98 tFiles 0 tP 97,oL 99 tP 98,oM 100 7,oE 101 aD 3 tI 3,oL 102 tI 101,oK 103 99,oE 104 tCache 0 ac 103,oE 105 ac 0 aK 104,oJ 106 8 aj 105 100,oE 107 aj 3 cH 106,oJ 108 2 tI 107 102,oU (.store tI [] (.s 108) (qI (-1)))]
abbrev az.r24:=[oC 4 0]
abbrev az.body:=gS (gR az.r0 [1,4]) (gS (gS (gR az.r1 [9,10]) (gS (gR az.r2 [11]) (gC 12 (gS (gR az.r3 [5,13]) .ret) .skip))) (gS (gS (gR az.r4 [14,15]) (gC 16 (gS (gR az.r5 [0,3,17,18,19,20,21,22]) .ret) .skip)) (gS (gT az.r6 [23,24,25,26,27,28,29,30,31,32,33]) (gS (gS (gR az.r7 [34]) (gC 35 (gS (gR az.r8 []) .ret) .skip)) (gS (gT az.r9 [36,37,38,39,40,41,42,43,44,45,46,47,48,49]) (gS (gS (gR az.r10 [50]) (.block 0 (gS (gR az.r11 [53]) (gC 52 (gS (gR az.r12 [0,3,7,54,55,56,57,58,59,60]) .ret) (gS (gR az.r13 [62]) (gC 61 (gS (gS (gR az.r14 [7,63,64,65,66,67,68,69]) (gS (gR az.r15 [70]) (gC 71 (gS (gR az.r16 [8,72]) .ret) .skip))) (gR az.r17 [0,3,6,73,74,75,76,77])) (gS (gR az.r18 [79]) (gC 78 (gR az.r19 [0,3,6,80,81,82,83,84]) (gS (gR az.r20 [86]) (gC 85 (gS (gR az.r21 [0,3,7,87,88,89,90,91,92,93]) .ret) (gS (gR az.r22 [51,95]) (gC 94 (gT az.r23 [0,3,7,96,97,98,99,100,101,102,103,104,105,106,107,108]) .skip)))))))))))) (gS (gR az.r24 []) .ret)))))))
abbrev az:=gF 2 [.tmp 4] az.body
abbrev ii.r0:=[pC 0 (.c .nilp)]
abbrev ii.r1:=[oA 1 231 [],oN 2 (.build tFiles [(0,(.s 1))]),oN 3 (.box true tFiles (.s 2)),oM 0 3]
abbrev ii.body:=gS (gR ii.r0 [0]) (gS (gR ii.r1 [1,2,3]) .ret)
abbrev ii:=gF 0 [.tmp 0] ii.body
abbrev ij.r0:=[pC 0 (.c .nilp)]
abbrev ij.r1:=[oA 1 30 [],oA 2 30 [],oN 3 (.build tBed [(0,(.s 1)),(1,(.s 2))]),oN 4 (.box true tBed (.s 3)),oM 0 4]
abbrev ij.body:=gS (gR ij.r0 [0]) (gS (gR ij.r1 [1,2,3,4]) .ret)
abbrev ij:=gF 0 [.tmp 0] ij.body
abbrev aS.r0:=[oN 3 (.box false aD (.s 1)),oC 4 0]
abbrev aS.r1:=[oE 5 aD 0 tI 3,oL 6 tI 5]
abbrev aS.r2:=[oI 8 .eql 6 7,oM 7 8]
abbrev aS.r3:=[oM 9 0,oK 10 9,oE 11 tLife 0 tP 10,oL 12 tP 11,oK 13 12,oE 14 tFiles 0 tP 13,oL 15 tP 14,oE 16 aD 3 tI 3,oL 17 tI 16,oA 18 212 [(.s 15),(.s 17)],pU 19 18]
abbrev aS.r4:=[oC 4 1]
abbrev aS.r5:=[oC 4 0]
abbrev aS.r6:=[oI 21 .eql 6 8,oM 20 21]
abbrev aS.r7:=[oM 22 0,oK 23 22,oE 24 tLife 0 tP 23,oL 25 tP 24,oK 26 25,oE 27 tFiles 0 tP 26,oL 28 tP 27,oA 29 201 [(.s 28)]]
abbrev aS.r8:=[oC 4 0]
abbrev aS.r9:=[oI 31 .eql 6 9,oM 30 31]
abbrev aS.r10:=[oM 32 0,oA 33 294 [(.s 32)],oM 4 33]
abbrev aS.r11:=[oM 34 0,oK 35 34,oE 36 tLife 0 tP 35,oL 37 tP 36,oL 38 aD 3,oA 39 275 [(.s 37),(.s 38)],oM 4 39]
abbrev aS.body:=gS (gR aS.r0 [1,4]) (gS (gS (gR aS.r1 [5]) (.block 0 (gS (gR aS.r2 [8]) (gC 7 (gS (gS (gT aS.r3 [0,3,9,10,11,12,13,14,15,16,17,18]) (gC 19 (gS (gR aS.r4 []) .ret) .skip)) (gS (gR aS.r5 []) .ret)) (gS (gR aS.r6 [21]) (gC 20 (gS (gR aS.r7 [0,22,23,24,25,26,27,28,29]) (gS (gR aS.r8 []) .ret)) (gS (gR aS.r9 [6,31]) (gC 30 (gS (gR aS.r10 [0,32,33]) .ret) .skip)))))))) (gS (gT aS.r11 [0,3,34,35,36,37,38,39]) .ret))
abbrev aS:=gF 2 [.tmp 4] aS.body
abbrev aH.r0:=[oN 3 (.box false aD (.s 1)),oC 4 0]
abbrev aH.r1:=[oE 9 aD 0 tI 3,oL 10 tI 9]
abbrev aH.r2:=[oI 12 .eql 10 7,oM 11 12]
abbrev aH.r3:=[oM 13 0,oE 14 aD 3 tI 3,oL 15 tI 14,oA 16 213 [(.s 13),(.s 15)],pU 17 16]
abbrev aH.r4:=[oC 4 1]
abbrev aH.r5:=[oC 4 0]
abbrev aH.r6:=[oI 19 .eql 10 8,oM 18 19]
abbrev aH.r7:=[oM 20 0,oA 21 202 [(.s 20)]]
abbrev aH.r8:=[oC 4 0]
abbrev aH.r9:=[oI 23 .eql 10 9,oM 22 23]
abbrev aH.r10:=[oM 25 0,oK 26 25,oE 27 tBed 1 ac 26,oL 28 ac 27,oA 29 26 [(.s 28)],oM 24 29,oZ 30 24 0,oZ 31 24 1,oZ 32 24 2,pN 5 ac,pN 6 tK3,oS ac 5 30,oS tK3 6 31,oM 7 32]
abbrev aH.r11:=[oM 33 7,oI 34 .neq 33 0]
abbrev aH.r12:=[oM 35 7,oM 4 35]
abbrev aH.r13:=[oM 36 0,oM 37 0,oL 38 ac 5,oN 39 (.load false (some 5) ac (.s 5)),oK 40 36,oE 41 tBed 0 ac 40,oU (.store ac [5] (.s 41) (.s 38)),oK 42 37,oE 43 tBed 1 ac 42,oS ac 43 39]
abbrev aH.r14:=[oM 44 0,oK 45 44,oE 46 tBed 3 tI 45,oL 47 tI 46,oI 48 .add 47 1,oK 49 44,oE 50 tBed 3 tI 49,oS tI 50 48]
abbrev aH.r15:=[oM 51 0,oM 52 0,oM 53 0,oN 54 (.idx 3 tI (.s 6) (qI 0)),oL 55 tI 54,oN 56 (.idx 3 tI (.s 6) (qI 1)),oN 57 (.load false (some 6) tI (.s 56)),oN 58 (.idx 3 tI (.s 6) (qI 2)),oN 59 (.load false (some 6) tI (.s 58)),oK 60 51,oE 61 tBed 4 tI 60,oU (.store tI [6] (.s 61) (.s 55)),oK 62 52,oE 63 tBed 5 tI 62,oU (.store tI [6] (.s 63) (.s 57)),oK 64 53,oE 65 tBed 6 tI 64,oS tI 65 59]
abbrev aH.r16:=[oM 66 0,oK 67 66,oE 68 tBed 2 tI 67,oU (.store tI [] (.s 68) (qI 0))]
abbrev aH.r17:=[oC 8 0]
abbrev aH.r18:=[oM 69 8,oI 70 .lss 69 8]
abbrev aH.r19:=[oM 71 8,oI 72 .add 71 1,oM 8 72]
abbrev aH.r20:=[oM 73 8,oE 74 ac 0 aK 5,oJ 75 8 aj 74 73,oE 76 aj 1 tI 75,oL 77 tI 76,oM 78 0,oK 79 78,oE 80 tBed 2 tI 79,oL 81 tI 80,oB 82 .gtr 77 81]
abbrev aH.r21:=[oM 83 0,oM 84 8,oE 85 ac 0 aK 5,oJ 86 8 aj 85 84,oE 87 aj 1 tI 86,oL 88 tI 87,oK 89 83,oE 90 tBed 2 tI 89,oS tI 90 88]
abbrev aH.r22:=[oC 4 0]
abbrev aH.r23:=[oM 91 0,oL 92 aD 3,oA 93 288 [(.s 91),(.s 92)],oM 4 93]
abbrev aH.body:=gS (gR aH.r0 [1,4]) (gS (gS (gR aH.r1 [9]) (.block 0 (gS (gR aH.r2 [12]) (gC 11 (gS (gS (gR aH.r3 [0,3,13,14,15,16]) (gC 17 (gS (gR aH.r4 []) .ret) .skip)) (gS (gR aH.r5 []) .ret)) (gS (gR aH.r6 [19]) (gC 18 (gS (gR aH.r7 [0,20,21]) (gS (gR aH.r8 []) .ret)) (gS (gR aH.r9 [10,23]) (gC 22 (gS (gR aH.r10 [24,25,26,27,28,29,30,31,32]) (gS (gS (gR aH.r11 [33]) (gC 34 (gS (gR aH.r12 [7,35]) .ret) .skip)) (gS (gT aH.r13 [36,37,38,39,40,41,42,43]) (gS (gR aH.r14 [44,45,46,47,48,49,50]) (gS (gT aH.r15 [6,51,52,53,54,55,56,57,58,59,60,61,62,63,64,65]) (gS (gR aH.r16 [66,67,68]) (gS (gS (gR aH.r17 []) (.block 1 (.loop [0,5,8] [5] (gS (gS (gR aH.r18 [69]) (gC 70 .skip (.exit 1))) (gS (.block 2 (gS (gT aH.r20 [73,74,75,76,77,78,79,80,81]) (gC 82 (gR aH.r21 [83,84,85,86,87,88,89,90]) .skip))) (gR aH.r19 [71,72])))))) (gS (gR aH.r22 []) .ret)))))))) .skip)))))))) (gS (gR aH.r23 [0,3,91,92,93]) .ret))
abbrev aH:=gF 2 [.tmp 4] aH.body
abbrev dy.r0:=[oC 2 0]
abbrev dy.r1:=[oM 3 0,oK 4 3,oE 5 tLife 2 tI 4,oL 6 tI 5,oM 2 6]
abbrev dy.body:=gS (gR dy.r0 [2]) (gS (gR dy.r1 [0,3,4,5,6]) .ret)
abbrev dy:=gF 1 [.tmp 2] dy.body
abbrev dZ.r0:=[pN 2 cS]
abbrev dZ.r1:=[oM 3 0,oK 4 3,oE 5 tLife 1 cS 4,oL 6 cS 5,oS cS 2 6]
abbrev dZ.body:=gS (gR dZ.r0 []) (gS (gR dZ.r1 [0,3,4,5,6]) .ret)
abbrev dZ:=gF 1 [.cell 2 cS] dZ.body
abbrev ik.r0:=[pC 0 (.c .nilp)]
abbrev ik.r1:=[oA 1 276 [],oN 2 (.build tLife [(0,(.s 1))]),oN 3 (.box true tLife (.s 2)),oM 0 3]
abbrev ik.body:=gS (gR ik.r0 [0]) (gS (gR ik.r1 [1,2,3]) .ret)
abbrev ik:=gF 0 [.tmp 0] ik.body
abbrev an.r0:=[oN 3 (.box false aD (.s 1)),oC 4 0]
abbrev an.r1:=[oL 11 aD 3,oA 12 217 [(.s 11)],oM 5 12]
abbrev an.r2:=[oM 13 5,oI 14 .neq 13 0]
abbrev an.r3:=[oM 15 5,oM 4 15]
abbrev an.r4:=[oM 16 0,oK 17 16,oE 18 tBed 0 ac 17,oE 19 aD 1 tI 3,oL 20 tI 19,oE 21 aD 4 tS 3,oL 22 tS 21,oA 23 20 [(.s 18),(.s 20),(.s 22)],oM 6 23]
abbrev an.r5:=[oE 24 aD 0 tI 3,oL 25 tI 24,oI 26 .eql 25 1]
abbrev an.r6:=[oM 27 6,oI 28 .geq 27 0]
abbrev an.r7:=[oC 4 4]
abbrev an.r8:=[oM 29 0,oA 30 206 [(.s 29)],oM 7 30]
abbrev an.r9:=[oM 31 7,oI 32 .lss 31 0,oM 33 32,oF 34 0 33,zE 35 aD 1 tI 3 33,zL 36 tI 35 33,zE 37 aD 4 tS 3 33,zL 38 tS 37 33,oH 39 (.call false [] 296 [(.s 34),(.s 36),(.s 38)]) 33,oH 40 (.un .not (.s 39)) 33,oO 41 33 40]
abbrev an.r10:=[oC 4 6]
abbrev an.r11:=[oM 42 0,oK 43 42,oE 44 tBed 2 tI 43,oL 45 tI 44,oI 46 .add 45 1,oK 47 42,oE 48 tBed 2 tI 47,oS tI 48 46]
abbrev an.r12:=[oM 49 0,oM 50 7,oA 51 13 [],oK 52 49,oE 53 tBed 0 ac 52,oE 54 ac 0 aK 53,oJ 55 8 aj 54 50,oS aj 55 51]
abbrev an.r13:=[oM 56 0,oM 57 7,oK 58 56,oE 59 tBed 0 ac 58,oE 60 ac 0 aK 59,oJ 61 8 aj 60 57,oE 62 aj 0 tB 61,oU (.store tB [] (.s 62) qT)]
abbrev an.r14:=[oM 63 0,oM 64 7,oM 65 0,oK 66 65,oE 67 tBed 2 tI 66,oL 68 tI 67,oK 69 63,oE 70 tBed 0 ac 69,oE 71 ac 0 aK 70,oJ 72 8 aj 71 64,oE 73 aj 1 tI 72,oS tI 73 68]
abbrev an.r15:=[oM 74 0,oE 75 aD 1 tI 3,oL 76 tI 75,oE 77 aD 4 tS 3,oL 78 tS 77,oM 79 7,oA 80 295 [(.s 74),(.s 76),(.s 78),(.s 79)]]
abbrev an.r16:=[oC 4 0]
abbrev an.r17:=[oM 81 6,oI 82 .lss 81 0]
abbrev an.r18:=[oC 4 5]
abbrev an.r19:=[oM 83 0,oE 84 aD 1 tI 3,oL 85 tI 84,oM 86 6,oK 87 83,oE 88 tBed 0 ac 87,oE 89 ac 1 cI 88,oJ 90 3 dC 89 85,oJ 91 4 aq 90 86,oE 92 aq 1 tI 91,oL 93 tI 92,oM 8 93]
abbrev an.r20:=[oM 94 0,oM 95 8,oK 96 94,oE 97 tBed 0 ac 96,oE 98 ac 0 aK 97,oJ 99 8 aj 98 95,oM 9 99]
abbrev an.r21:=[oE 100 aD 0 tI 3,oL 101 tI 100,oI 102 .eql 101 2,oM 103 102,zE 104 aD 0 tI 3 103,zL 105 tI 104 103,zB 106 .eql 105 4 103,oO 107 103 106]
abbrev an.r22:=[oM 108 0,oK 109 108,oE 110 tBed 0 ac 109,oE 111 aD 2 tI 3,oL 112 tI 111,oE 113 aD 5 tS 3,oL 114 tS 113,oA 115 20 [(.s 110),(.s 112),(.s 114)],oI 116 .geq 115 0]
abbrev an.r23:=[oC 4 4]
abbrev an.r24:=[oM 117 0,oE 118 aD 2 tI 3,oL 119 tI 118,oE 120 aD 5 tS 3,oL 121 tS 120,oA 122 296 [(.s 117),(.s 119),(.s 121)],pU 123 122]
abbrev an.r25:=[oC 4 6]
abbrev an.r26:=[oM 124 0,oE 125 aD 2 tI 3,oL 126 tI 125,oE 127 aD 5 tS 3,oL 128 tS 127,oM 129 8,oA 130 295 [(.s 124),(.s 126),(.s 128),(.s 129)]]
abbrev an.r27:=[oE 131 aD 0 tI 3,oL 132 tI 131]
abbrev an.r28:=[oI 134 .eql 132 3,oM 133 134]
abbrev an.r29:=[oI 135 .eql 132 4,oM 133 135]
abbrev an.r30:=[oM 136 0,oE 137 aD 1 tI 3,oL 138 tI 137,oM 139 6,oN 140 (.build aq []),oK 141 136,oE 142 tBed 0 ac 141,oE 143 ac 1 cI 142,oJ 144 3 dC 143 138,oJ 145 4 aq 144 139,oS aq 145 140]
abbrev an.r31:=[oM 146 9,oK 147 146,oE 148 aj 2 tI 147,oL 149 tI 148,oI 150 .sub 149 1,oK 151 146,oE 152 aj 2 tI 151,oS tI 152 150]
abbrev an.r32:=[oM 153 9,oK 154 153,oE 155 aj 2 tI 154,oL 156 tI 155,oI 157 .eql 156 0]
abbrev an.r33:=[oM 158 9,oA 159 13 [],oK 160 158,oS aj 160 159]
abbrev an.r34:=[oI 162 .eql 132 5,oM 161 162]
abbrev an.r35:=[oM 163 9,oE 164 aD 3 tI 3,oL 165 tI 164,oK 166 163,oE 167 aj 3 cH 166,oJ 168 2 tI 167 165,oL 169 tI 168,oI 170 .lss 169 0]
abbrev an.r36:=[oM 171 0,oA 172 210 [(.s 171)],oM 10 172]
abbrev an.r37:=[oM 173 10,oI 174 .lss 173 0]
abbrev an.r38:=[oC 4 6]
abbrev an.r39:=[oM 175 9,oE 176 aD 3 tI 3,oL 177 tI 176,oM 178 10,oK 179 175,oE 180 aj 3 cH 179,oJ 181 2 tI 180 177,oS tI 181 178]
abbrev an.r40:=[oM 182 0,oM 183 9,oE 184 aD 3 tI 3,oL 185 tI 184,oK 186 183,oE 187 aj 3 cH 186,oJ 188 2 tI 187 185,oL 189 tI 188,oM 190 9,oK 191 190,oE 192 aj 1 tI 191,oL 193 tI 192,oE 194 aD 6 tS 3,oL 195 tS 194,oN 196 (.build cf [(0,(.s 193)),(1,(.s 195))]),oK 197 182,oE 198 tBed 0 ac 197,oE 199 ac 2 dD 198,oJ 200 9 cf 199 189,oS cf 200 196]
abbrev an.r41:=[oI 202 .eql 132 6,oM 201 202]
abbrev an.r42:=[oM 203 9,oE 204 aD 3 tI 3,oL 205 tI 204,oK 206 203,oE 207 aj 3 cH 206,oJ 208 2 tI 207 205,oU (.store tI [] (.s 208) (qI (-1)))]
abbrev an.r43:=[oC 4 0]
abbrev an.body:=gS (gR an.r0 [1,4]) (gS (gS (gR an.r1 [11,12]) (gS (gR an.r2 [13]) (gC 14 (gS (gR an.r3 [5,15]) .ret) .skip))) (gS (gT an.r4 [16,17,18,19,20,21,22,23]) (gS (gS (gR an.r5 [24,25]) (gC 26 (gS (gS (gR an.r6 [6,27]) (gC 28 (gS (gR an.r7 []) .ret) .skip)) (gS (gR an.r8 [29,30]) (gS (gS (gR an.r9 [31,32,33,34,35,36,37,38,39,40]) (gC 41 (gS (gR an.r10 []) .ret) .skip)) (gS (gR an.r11 [42,43,44,45,46,47,48]) (gS (gT an.r12 [49,50,51,52,53,54,55]) (gS (gR an.r13 [56,57,58,59,60,61,62]) (gS (gT an.r14 [63,64,65,66,67,68,69,70,71,72,73]) (gS (gR an.r15 [0,3,7,74,75,76,77,78,79,80]) (gS (gR an.r16 []) .ret))))))))) .skip)) (gS (gS (gR an.r17 [81]) (gC 82 (gS (gR an.r18 []) .ret) .skip)) (gS (gT an.r19 [83,84,85,86,87,88,89,90,91,92,93]) (gS (gR an.r20 [94,95,96,97,98,99]) (gS (gS (gR an.r21 [100,101,102,103,104,105,106]) (gC 107 (gS (gS (gT an.r22 [108,109,110,111,112,113,114,115]) (gC 116 (gS (gR an.r23 []) .ret) .skip)) (gS (gS (gR an.r24 [117,118,119,120,121,122]) (gC 123 (gS (gR an.r25 []) .ret) .skip)) (gR an.r26 [8,124,125,126,127,128,129,130]))) .skip)) (gS (gS (gR an.r27 [131]) (.block 0 (gS (gS (gR an.r28 [134]) (gC 133 .skip (gR an.r29 [135]))) (gC 133 (gS (gT an.r30 [0,3,6,136,137,138,139,140,141,142,143,144,145]) (gS (gR an.r31 [146,147,148,149,150,151,152]) (gS (gR an.r32 [153,154,155,156]) (gC 157 (gR an.r33 [9,158,159,160]) .skip)))) (gS (gR an.r34 [162]) (gC 161 (gS (gS (gT an.r35 [163,164,165,166,167,168,169]) (gC 170 (gS (gR an.r36 [171,172]) (gS (gS (gR an.r37 [173]) (gC 174 (gS (gR an.r38 []) .ret) .skip)) (gT an.r39 [10,175,176,177,178,179,180,181]))) .skip)) (gT an.r40 [0,3,9,182,183,184,185,186,187,188,189,190,191,192,193,194,195,196,197,198,199,200])) (gS (gR an.r41 [132,202]) (gC 201 (gT an.r42 [3,9,203,204,205,206,207,208]) .skip)))))))) (gS (gR an.r43 []) .ret)))))))))
abbrev an:=gF 2 [.tmp 4] an.body
abbrev dv.r0:=[oC 4 0]
abbrev dv.r1:=[oM 5 0,oM 6 1,oA 7 242 [(.s 5),(.s 6)],oM 4 7]
abbrev dv.body:=gS (gR dv.r0 [4]) (gS (gR dv.r1 [0,1,5,6,7]) .ret)
abbrev dv:=gF 2 [.tmp 4] dv.body
abbrev bo.r0:=[oC 8 0]
abbrev bo.r1:=[oM 10 0,oK 11 10,oE 12 tFiles 0 tP 11,oL 13 tP 12,oK 14 13,oE 15 tCache 0 ac 14,oM 16 1,oM 17 2,oA 18 19 [(.s 15),(.s 16),(.s 17)],oI 19 .geq 18 0]
abbrev bo.r2:=[oC 8 4]
abbrev bo.r3:=[oM 20 0,oM 21 1,oM 22 2,oA 23 297 [(.s 20),(.s 21),(.s 22)],oM 9 23]
abbrev bo.r4:=[oM 24 9,oI 25 .lss 24 0]
abbrev bo.r5:=[oC 8 6]
abbrev bo.r6:=[oM 26 0,oK 27 26,oE 28 tFiles 0 tP 27,oL 29 tP 28,oM 30 1,oM 31 9,oM 32 2,oM 33 3,oM 34 0,oK 35 34,oE 36 tFiles 0 tP 35,oL 37 tP 36,oM 38 3,oK 39 37,oE 40 tCache 0 ac 39,oE 41 ac 0 aK 40,oJ 42 8 aj 41 38,oE 43 aj 1 tI 42,oL 44 tI 43,oN 45 (.build aq [(0,(.s 32)),(1,(.s 33)),(2,(.s 44))]),oK 46 29,oE 47 tCache 0 ac 46,oE 48 ac 1 cI 47,oJ 49 3 dC 48 30,oJ 50 4 aq 49 31,oS aq 50 45]
abbrev bo.r7:=[oM 51 0,oK 52 51,oE 53 tFiles 0 tP 52,oL 54 tP 53,oM 55 3,oK 56 54,oE 57 tCache 0 ac 56,oE 58 ac 0 aK 57,oJ 59 8 aj 58 55,oE 60 aj 2 tI 59,oL 61 tI 60,oI 62 .add 61 1,oK 63 54,oE 64 tCache 0 ac 63,oE 65 ac 0 aK 64,oJ 66 8 aj 65 55,oE 67 aj 2 tI 66,oS tI 67 62]
abbrev bo.r8:=[oC 8 0]
abbrev bo.body:=gS (gR bo.r0 [8]) (gS (gS (gR bo.r1 [10,11,12,13,14,15,16,17,18]) (gC 19 (gS (gR bo.r2 []) .ret) .skip)) (gS (gR bo.r3 [20,21,22,23]) (gS (gS (gR bo.r4 [24]) (gC 25 (gS (gR bo.r5 []) .ret) .skip)) (gS (gT bo.r6 [1,2,9,26,27,28,29,30,31,32,33,34,35,36,37,38,39,40,41,42,43,44,45,46,47,48,49,50]) (gS (gT bo.r7 [0,3,51,52,53,54,55,56,57,58,59,60,61,62,63,64,65,66,67]) (gS (gR bo.r8 []) .ret))))))
abbrev bo:=gF 4 [.tmp 8] bo.body
abbrev b5.r0:=[oM 7 0,oK 8 7,oE 9 tFiles 0 tP 8,oL 10 tP 9,oM 11 1,oM 12 2,oK 13 10,oE 14 tCache 0 ac 13,oE 15 ac 1 cI 14,oJ 16 3 dC 15 11,oJ 17 4 aq 16 12,oE 18 aq 1 tI 17,oL 19 tI 18,oM 6 19]
abbrev b5.r1:=[oM 20 0,oK 21 20,oE 22 tFiles 0 tP 21,oL 23 tP 22,oM 24 1,oM 25 2,oN 26 (.build aq []),oK 27 23,oE 28 tCache 0 ac 27,oE 29 ac 1 cI 28,oJ 30 3 dC 29 24,oJ 31 4 aq 30 25,oS aq 31 26]
abbrev b5.r2:=[oM 32 0,oK 33 32,oE 34 tFiles 0 tP 33,oL 35 tP 34,oM 36 6,oK 37 35,oE 38 tCache 0 ac 37,oE 39 ac 0 aK 38,oJ 40 8 aj 39 36,oE 41 aj 2 tI 40,oL 42 tI 41,oI 43 .sub 42 1,oK 44 35,oE 45 tCache 0 ac 44,oE 46 ac 0 aK 45,oJ 47 8 aj 46 36,oE 48 aj 2 tI 47,oS tI 48 43]
abbrev b5.r3:=[oM 49 0,oK 50 49,oE 51 tFiles 0 tP 50,oL 52 tP 51,oM 53 6,oK 54 52,oE 55 tCache 0 ac 54,oE 56 ac 0 aK 55,oJ 57 8 aj 56 53,oE 58 aj 2 tI 57,oL 59 tI 58,oI 60 .eql 59 0]
abbrev b5.r4:=[oM 61 0,oK 62 61,oE 63 tFiles 0 tP 62,oL 64 tP 63,oM 65 6,oN 66 (.call true [] 33 []),oK 67 64,oE 68 tCache 0 ac 67,oE 69 ac 0 aK 68,oJ 70 8 aj 69 65,oS aj 70 66]
abbrev b5.body:=gS (gR b5.r0 [7,8,9,10,11,12,13,14,15,16,17,18,19]) (gS (gR b5.r1 [1,2,20,21,22,23,24,25,26,27,28,29,30,31]) (gS (gT b5.r2 [32,33,34,35,36,37,38,39,40,41,42,43,44,45,46,47,48]) (gS (gR b5.r3 [49,50,51,52,53,54,55,56,57,58,59]) (gC 60 (gT b5.r4 [0,6,61,62,63,64,65,66,67,68,69,70]) .skip))))
abbrev b5:=gF 3 [] b5.body
abbrev bI.r0:=[oC 8 0]
abbrev bI.r1:=[oM 11 0,oK 12 11,oE 13 tFiles 0 tP 12,oL 14 tP 13,oM 15 1,oK 16 14,oE 17 tCache 0 ac 16,oE 18 ac 0 aK 17,oJ 19 8 aj 18 15,oM 9 19]
abbrev bI.r2:=[oM 20 9,oM 21 2,oK 22 20,oE 23 aj 3 cH 22,oJ 24 2 tI 23 21,oL 25 tI 24,oI 26 .lss 25 0]
abbrev bI.r3:=[oM 27 0,oK 28 27,oE 29 tFiles 0 tP 28,oL 30 tP 29,oA 31 209 [(.s 30)],oM 10 31]
abbrev bI.r4:=[oM 32 10,oI 33 .lss 32 0]
abbrev bI.r5:=[oC 8 6]
abbrev bI.r6:=[oM 34 9,oM 35 2,oM 36 10,oK 37 34,oE 38 aj 3 cH 37,oJ 39 2 tI 38 35,oS tI 39 36]
abbrev bI.r7:=[oM 40 0,oK 41 40,oE 42 tFiles 0 tP 41,oL 43 tP 42,oM 44 9,oM 45 2,oK 46 44,oE 47 aj 3 cH 46,oJ 48 2 tI 47 45,oL 49 tI 48,oM 50 9,oK 51 50,oE 52 aj 1 tI 51,oL 53 tI 52,oM 54 3,oN 55 (.build cf [(0,(.s 53)),(1,(.s 54))]),oK 56 43,oE 57 tCache 0 ac 56,oE 58 ac 2 dD 57,oJ 59 9 cf 58 49,oS cf 59 55]
abbrev bI.r8:=[oC 8 0]
abbrev bI.body:=gS (gR bI.r0 [8]) (gS (gR bI.r1 [1,11,12,13,14,15,16,17,18,19]) (gS (gS (gR bI.r2 [20,21,22,23,24,25]) (gC 26 (gS (gR bI.r3 [27,28,29,30,31]) (gS (gS (gR bI.r4 [32]) (gC 33 (gS (gR bI.r5 []) .ret) .skip)) (gR bI.r6 [10,34,35,36,37,38,39]))) .skip)) (gS (gT bI.r7 [0,2,3,9,40,41,42,43,44,45,46,47,48,49,50,51,52,53,54,55,56,57,58,59]) (gS (gR bI.r8 []) .ret))))
abbrev bI:=gF 4 [.tmp 8] bI.body
abbrev bh.r0:=[oC 6 0]
abbrev bh.r1:=[oM 8 0,oK 9 8,oE 10 tFiles 0 tP 9,oL 11 tP 10,oK 12 11,oE 13 tCache 0 ac 12,oM 14 1,oM 15 2,oA 16 19 [(.s 13),(.s 14),(.s 15)],oI 17 .geq 16 0]
abbrev bh.r2:=[oC 6 4]
abbrev bh.r3:=[oM 18 0,oK 19 18,oE 20 tFiles 0 tP 19,oL 21 tP 20,oA 22 205 [(.s 21)],oM 7 22]
abbrev bh.r4:=[oM 23 7,oI 24 .lss 23 0,oM 25 24,oF 26 0 25,oF 27 1 25,oF 28 2 25,oH 29 (.call false [] 297 [(.s 26),(.s 27),(.s 28)]) 25,zB 30 .lss 29 0 25,oO 31 25 30]
abbrev bh.r5:=[oC 6 6]
abbrev bh.r6:=[oM 32 0,oK 33 32,oE 34 tFiles 1 tI 33,oL 35 tI 34,oI 36 .add 35 1,oK 37 32,oE 38 tFiles 1 tI 37,oS tI 38 36]
abbrev bh.r7:=[oM 39 0,oK 40 39,oE 41 tFiles 0 tP 40,oL 42 tP 41,oM 43 7,oN 44 (.call true [] 33 []),oK 45 42,oE 46 tCache 0 ac 45,oE 47 ac 0 aK 46,oJ 48 8 aj 47 43,oS aj 48 44]
abbrev bh.r8:=[oM 49 0,oK 50 49,oE 51 tFiles 0 tP 50,oL 52 tP 51,oM 53 7,oM 54 0,oK 55 54,oE 56 tFiles 0 tP 55,oL 57 tP 56,oM 58 7,oM 59 0,oK 60 59,oE 61 tFiles 1 tI 60,oL 62 tI 61,oK 63 52,oE 64 tCache 0 ac 63,oE 65 ac 0 aK 64,oJ 66 8 aj 65 53,oE 67 aj 0 tB 66,oU (.store tB [] (.s 67) qT),oK 68 57,oE 69 tCache 0 ac 68,oE 70 ac 0 aK 69,oJ 71 8 aj 70 58,oE 72 aj 1 tI 71,oS tI 72 62]
abbrev bh.r9:=[oM 73 0,oM 74 1,oM 75 2,oM 76 7,oA 77 290 [(.s 73),(.s 74),(.s 75),(.s 76)],oM 6 77]
abbrev bh.body:=gS (gR bh.r0 [6]) (gS (gS (gR bh.r1 [8,9,10,11,12,13,14,15,16]) (gC 17 (gS (gR bh.r2 []) .ret) .skip)) (gS (gR bh.r3 [18,19,20,21,22]) (gS (gS (gR bh.r4 [23,24,25,26,27,28,29,30]) (gC 31 (gS (gR bh.r5 []) .ret) .skip)) (gS (gR bh.r6 [32,33,34,35,36,37,38]) (gS (gT bh.r7 [39,40,41,42,43,44,45,46,47,48]) (gS (gT bh.r8 [49,50,51,52,53,54,55,56,57,58,59,60,61,62,63,64,65,66,67,68,69,70,71,72]) (gS (gR bh.r9 [0,1,2,7,73,74,75,76,77]) .ret)))))))
abbrev bh:=gF 3 [.tmp 6] bh.body
abbrev bR.r0:=[oC 2 0]
abbrev bR.r1:=[oM 7 0,oK 8 7,oE 9 tLife 0 tP 8,oL 10 tP 9,oK 11 10,oE 12 tFiles 0 tP 11,oL 13 tP 12,oA 14 203 [(.s 13)],oA 15 27 [(.s 14)],oM 6 15,oZ 16 6 0,oZ 17 6 1,oZ 18 6 2,pN 3 ac,pN 4 cS,oS ac 3 16,oS cS 4 17,oM 5 18]
abbrev bR.r2:=[oM 19 5,oI 20 .neq 19 0]
abbrev bR.r3:=[oM 21 5,oM 2 21]
abbrev bR.r4:=[oM 22 0,oM 23 0,oL 24 ac 3,pQ 25 278 24,oN 26 (.load false (some 4) cS (.s 4)),oK 27 22,oE 28 tLife 0 tP 27,oU (.store tP [4] (.s 28) (.s 25)),oK 29 23,oE 30 tLife 1 cS 29,oS cS 30 26]
abbrev bR.r5:=[oM 31 0,oK 32 31,oE 33 tLife 2 tI 32,oL 34 tI 33,oI 35 .add 34 1,oK 36 31,oE 37 tLife 2 tI 36,oS tI 37 35]
abbrev bR.r6:=[oC 2 0]
abbrev bR.body:=gS (gR bR.r0 [2]) (gS (gR bR.r1 [6,7,8,9,10,11,12,13,14,15,16,17,18]) (gS (gS (gR bR.r2 [19]) (gC 20 (gS (gR bR.r3 [5,21]) .ret) .skip)) (gS (gT bR.r4 [3,4,22,23,24,25,26,27,28,29,30]) (gS (gR bR.r5 [0,31,32,33,34,35,36,37]) (gS (gR bR.r6 []) .ret)))))
abbrev bR:=gF 1 [.tmp 2] bR.body
abbrev gA.r0:=[oM 8 0,oM 9 1,oM 10 0,oM 11 1,oN 12 (.call true [] 208 [(.s 10),(.s 11)]),oM 13 2,oM 14 3,oM 15 0,oM 16 3,oK 17 15,oE 18 tBed 0 ac 17,oE 19 ac 0 aK 18,oJ 20 8 aj 19 16,oE 21 aj 1 tI 20,oL 22 tI 21,oN 23 (.build aq [(0,(.s 13)),(1,(.s 14)),(2,(.s 22))]),oK 24 8,oE 25 tBed 0 ac 24,oE 26 ac 1 cI 25,oJ 27 3 dC 26 9,oJ 28 4 aq 27 12,oS aq 28 23]
abbrev gA.r1:=[oM 29 0,oM 30 3,oK 31 29,oE 32 tBed 0 ac 31,oE 33 ac 0 aK 32,oJ 34 8 aj 33 30,oE 35 aj 2 tI 34,oL 36 tI 35,oI 37 .add 36 1,oK 38 29,oE 39 tBed 0 ac 38,oE 40 ac 0 aK 39,oJ 41 8 aj 40 30,oE 42 aj 2 tI 41,oS tI 42 37]
abbrev gA.body:=gS (gT gA.r0 [1,2,8,9,10,11,12,13,14,15,16,17,18,19,20,21,22,23,24,25,26,27,28]) (gT gA.r1 [0,3,29,30,31,32,33,34,35,36,37,38,39,40,41,42])
abbrev gA:=gF 4 [] gA.body
abbrev fO.r0:=[pC 6 qF]
abbrev fO.r1:=[oM 7 0,oM 8 1,oA 9 208 [(.s 7),(.s 8)],oI 10 .geq 9 0,oM 11 10,oT 12 0 11,pK 13 12 11,pE 14 tBed 1 ac 13 11,oT 15 1 11,oT 16 2 11,oG 17 (.call false [] 20 [(.s 14),(.s 15),(.s 16)]) 11,oG 18 (.bin .lss (.s 17) (qI 0)) 11,oQ 19 11 18,oM 6 19]
abbrev fO.body:=gS (gR fO.r0 [6]) (gS (gR fO.r1 [0,1,2,7,8,9,10,11,12,13,14,15,16,17,18,19]) .ret)
abbrev fO:=gF 3 [.tmp 6] fO.body
abbrev cl.r0:=[oC 6 0]
abbrev cl.r1:=[oM 8 0,oK 9 8,oE 10 tFiles 0 tP 9,oL 11 tP 10,oA 12 203 [(.s 11)],pN 7 ac,oS ac 7 12]
abbrev cl.r2:=[oM 13 1,oM 14 2,oA 15 19 [(.s 7),(.s 13),(.s 14)],oI 16 .geq 15 0]
abbrev cl.r3:=[pC 6 (qI (-1))]
abbrev cl.r4:=[oM 17 0,oK 18 17,oE 19 tFiles 0 tP 18,oL 20 tP 19,oM 21 1,oA 22 207 [(.s 20),(.s 21)],oM 6 22]
abbrev cl.body:=gS (gR cl.r0 [6]) (gS (gR cl.r1 [8,9,10,11,12]) (gS (gS (gR cl.r2 [2,7,13,14,15]) (gC 16 (gS (gR cl.r3 []) .ret) .skip)) (gS (gR cl.r4 [0,1,17,18,19,20,21,22]) .ret)))
abbrev cl:=gF 3 [.tmp 6] cl.body
end Fn
def FI:List (Option MFun):=[none,none,none,none,none,none,none,none,none,none,none,none,none,none,none,none,some Fn.bH,some Fn.aI,none,none,none,none,none,some Fn.ba,none,none,none,none,none,none,none,none,some Fn.cQ,none,none,none,some Fn.dF,none,none,none,some Fn.dL,some Fn.ai,some Fn.bB,some Fn.gG,none,none,none,none,none,none,none,some Fn.aB,some Fn.aV,none,none,none,none,none,none,none,none,none,none,none,none,none,some Fn.cZ,none,some Fn.cG,none,none,some Fn.aU,some Fn.aO,some Fn.ch,none,some Fn.az,some Fn.ii,none,none,some Fn.ij,none,some Fn.aS,some Fn.aH,some Fn.dy,some Fn.dZ,some Fn.ik,none,none,some Fn.an,some Fn.dv,some Fn.bo,some Fn.b5,some Fn.bI,some Fn.bh,some Fn.bR,some Fn.gA,some Fn.fO,some Fn.cl,none,none,none,none,none,none,none,none,none,none]
namespace Fn
abbrev du.r0:=[oN 1 (.box false ac (.s 0)),pC 2 (.c .nilp)]
abbrev du.r1:=[oL 7 ac 1,oA 8 214 [(.s 7)],oM 3 8]
abbrev du.r2:=[oM 9 3,oN 10 (.eq false tP (.s 9) (.c .nilp))]
abbrev du.r3:=[pC 2 (.c .nilp)]
abbrev du.r4:=[oM 11 3,oN 12 (.build tFiles [(0,(.s 11))]),oN 13 (.box true tFiles (.s 12)),oM 4 13]
abbrev du.r5:=[oE 14 ac 0 aK 1,oL 15 aK 14,oC 16 0]
abbrev du.r6:=[oI 17 .lss 16 8]
abbrev du.r7:=[oN 18 (.aidx 8 aj (.s 15) (.s 16)),pN 6 aj,oS aj 6 18]
abbrev du.r8:=[oM 19 4,oM 20 4,oK 21 20,oE 22 tFiles 1 tI 21,oL 23 tI 22,oE 24 aj 1 tI 6,oL 25 tI 24,oN 26 (.max (.s 23) (.s 25)),oK 27 19,oE 28 tFiles 1 tI 27,oS tI 28 26]
abbrev du.r9:=[oI 29 .add 16 1,oM 16 29]
abbrev du.r10:=[oM 30 4,oM 2 30]
abbrev du.body:=gS (gR du.r0 [0,2]) (gS (gR du.r1 [7,8]) (gS (gS (gR du.r2 [9]) (gC 10 (gS (gR du.r3 []) .ret) .skip)) (gS (gR du.r4 [3,11,12,13]) (gS (gS (gR du.r5 [1,14]) (.block 0 (.loop [4,15,16] [13] (gS (gR du.r6 []) (gS (gC 17 .skip (.exit 0)) (gS (.block 1 (gS (gR du.r7 [18]) (gT du.r8 [6,19,20,21,22,23,24,25,26,27,28]))) (gR du.r9 [29]))))))) (gS (gR du.r10 [4,30]) .ret)))))
abbrev du:=gF 1 [.tmp 2] du.body
abbrev eW.r0:=[pC 10 qF]
abbrev eW.r1:=[oM 13 0,oK 14 13,oE 15 tBed 0 ac 14,oM 16 1,oM 17 2,oA 18 20 [(.s 15),(.s 16),(.s 17)],oM 19 0,oK 20 19,oE 21 tBed 0 ac 20,oM 22 3,oM 23 4,oA 24 20 [(.s 21),(.s 22),(.s 23)],oM 11 18,oM 12 24]
abbrev eW.r2:=[oM 25 11,oI 26 .geq 25 0,oM 27 26,oT 28 12 27,oG 29 (.bin .geq (.s 28) (qI 0)) 27,oQ 30 27 29,oM 31 30,oT 32 0 31,oT 33 1 31,oT 34 11 31,pK 35 32 31,pE 36 tBed 0 ac 35 31,pE 37 ac 1 cI 36 31,pJ 38 3 dC 37 33 31,pJ 39 4 aq 38 34 31,pE 40 aq 1 tI 39 31,pL 41 tI 40 31,oT 42 0 31,oT 43 3 31,oT 44 12 31,pK 45 42 31,pE 46 tBed 0 ac 45 31,pE 47 ac 1 cI 46 31,pJ 48 3 dC 47 43 31,pJ 49 4 aq 48 44 31,pE 50 aq 1 tI 49 31,pL 51 tI 50 31,pB 52 .eql 41 51 31,oQ 53 31 52,oM 10 53]
abbrev eW.body:=gS (gR eW.r0 [10]) (gS (gT eW.r1 [2,4,13,14,15,16,17,18,19,20,21,22,23,24]) (gS (gT eW.r2 [0,1,3,11,12,25,26,27,28,29,30,31,32,33,34,35,36,37,38,39,40,41,42,43,44,45,46,47,48,49,50,51,52,53]) .ret))
abbrev eW:=gF 5 [.tmp 10] eW.body
abbrev eV.r0:=[pC 6 qF]
abbrev eV.r1:=[oM 8 0,oK 9 8,oE 10 tBed 0 ac 9,oM 11 1,oM 12 2,oA 13 20 [(.s 10),(.s 11),(.s 12)],oM 7 13]
abbrev eV.r2:=[oM 14 7,oI 15 .geq 14 0,oM 16 15,oT 17 0 16,oT 18 1 16,oT 19 7 16,pK 20 17 16,pE 21 tBed 0 ac 20 16,pE 22 ac 1 cI 21 16,pJ 23 3 dC 22 18 16,pJ 24 4 aq 23 19 16,pL 25 aq 24 16,oT 26 0 16,oT 27 1 16,oT 28 7 16,pK 29 26 16,pE 30 tBed 1 ac 29 16,pE 31 ac 1 cI 30 16,pJ 32 3 dC 31 27 16,pJ 33 4 aq 32 28 16,pL 34 aq 33 16,oG 35 (.eq false aq (.s 25) (.s 34)) 16,oQ 36 16 35,oM 6 36]
abbrev eV.body:=gS (gR eV.r0 [6]) (gS (gR eV.r1 [2,8,9,10,11,12,13]) (gS (gT eV.r2 [0,1,7,14,15,16,17,18,19,20,21,22,23,24,25,26,27,28,29,30,31,32,33,34,35,36]) .ret))
abbrev eV:=gF 3 [.tmp 6] eV.body
abbrev bZ.r0:=[pC 8 (qS #[]),pC 9 qF,oC 10 0]
abbrev bZ.r1:=[oM 14 1,oM 15 2,oM 16 3,oN 17 (.build aD [(0,(qI 6)),(1,(.s 14)),(4,(.s 15)),(3,(.s 16))]),oA 18 217 [(.s 17)],oM 11 18]
abbrev bZ.r2:=[oM 19 11,oI 20 .neq 19 0]
abbrev bZ.r3:=[oM 21 11,pC 8 (qS #[]),pC 9 qF,oM 10 21]
abbrev bZ.r4:=[oM 22 0,oK 23 22,oE 24 tBed 0 ac 23,oM 25 1,oM 26 2,oA 27 20 [(.s 24),(.s 25),(.s 26)],oM 12 27]
abbrev bZ.r5:=[oM 28 12,oI 29 .lss 28 0]
abbrev bZ.r6:=[pC 8 (qS #[]),pC 9 qF,oC 10 5]
abbrev bZ.r7:=[oM 30 0,oM 31 0,oM 32 1,oM 33 12,oK 34 31,oE 35 tBed 0 ac 34,oE 36 ac 1 cI 35,oJ 37 3 dC 36 32,oJ 38 4 aq 37 33,oE 39 aq 1 tI 38,oL 40 tI 39,oM 41 3,oK 42 30,oE 43 tBed 0 ac 42,oE 44 ac 0 aK 43,oJ 45 8 aj 44 40,oE 46 aj 3 cH 45,oJ 47 2 tI 46 41,oL 48 tI 47,oM 13 48]
abbrev bZ.r8:=[oM 49 13,oI 50 .lss 49 0]
abbrev bZ.r9:=[pC 8 (qS #[]),pC 9 qF,oC 10 0]
abbrev bZ.r10:=[oM 51 0,oM 52 13,oK 53 51,oE 54 tBed 0 ac 53,oE 55 ac 2 dD 54,oJ 56 9 cf 55 52,oE 57 cf 1 tS 56,oL 58 tS 57,oM 8 58,pC 9 qT,oC 10 0]
abbrev bZ.body:=gS (gR bZ.r0 [8,9,10]) (gS (gS (gR bZ.r1 [14,15,16,17,18]) (gS (gR bZ.r2 [19]) (gC 20 (gS (gR bZ.r3 [11,21]) .ret) .skip))) (gS (gR bZ.r4 [2,22,23,24,25,26,27]) (gS (gS (gR bZ.r5 [28]) (gC 29 (gS (gR bZ.r6 []) .ret) .skip)) (gS (gT bZ.r7 [1,3,12,30,31,32,33,34,35,36,37,38,39,40,41,42,43,44,45,46,47,48]) (gS (gS (gR bZ.r8 [49]) (gC 50 (gS (gR bZ.r9 []) .ret) .skip)) (gS (gR bZ.r10 [0,13,51,52,53,54,55,56,57,58]) .ret))))))
abbrev bZ:=gF 4 [.tmp 8,.tmp 9,.tmp 10] bZ.body
end Fn
def JC:List (Option MFun):=[none,none,none,none,none,none,none,none,none,none,none,none,none,none,none,none,none,none,none,none,none,none,none,none,none,none,none,none,none,none,none,none,none,none,none,none,none,none,none,none,none,none,none,none,none,none,none,none,none,none,none,none,none,none,none,none,none,none,none,none,none,none,none,none,none,none,none,none,none,none,none,none,none,none,none,none,none,none,some Fn.du,none,none,none,none,none,none,none,none,none,none,none,none,none,none,none,none,none,none,none,none,none,none,none,none,none,none,none,none,none,none,none,some Fn.eW,some Fn.eV,some Fn.bZ,none,none,none]
namespace Fn
end Fn
def JB:List (Option MFun):=[none,none,none,none,none,none,none,none,none,none,none,none,none,none,none,none,none,none,none,none,none,none,none,none,none,none,none,none,none,none,none,none,none,none,none,none,none,none,none,none,none,none,none,none,none,none,none,none,none,none,none,none,none,none,none,none,none,none,none,none,none,none,none,none,none,none,none,none,none,none,none,none,none,none,none,none,none,none,none,none,none,none,none,none,none,none,none,none,none,none,none,none,none,none,none,none,none,none,none,none,none,none,none,none,none,none,none,none,none,none,none,none,none,none,none,none,none,none,none,none,none,none,none,none,none,none,none,none,none,none,none,none,none,none,none]
def bz(n:Int):List UInt8:=Lib.itoa n
def i64(n:Int):Prop:=-9223372036854775808<=n/\n<=9223372036854775807
instance (n:Int):Decidable (i64 n):=inferInstanceAs (Decidable (_/\_))
def vA:List AV->Option AV
 | [.int .i64 n]=>if i64 n then some (.str ⟨(bz n).toArray⟩)else none
 |_=>none
def hexV(c:UInt8):Option Nat:=
 if 48<=c.toNat/\c.toNat<=57 then some (c.toNat-48)
 else if 97<=(c|||32).toNat/\(c|||32).toNat<=102 then some ((c|||32).toNat-87)else none
def hex2(b:ByteArray):Option Nat:=
 match b.data.toList with
 | [x,y]=>match hexV x,hexV y with
  |some p,some q=>some (16*p+q)
  |_,_=>none
 |_=>none
def pPu:List AV->Option AV
 | [.str b,.int .i64 16,.int .i64 8]=>if b.size=2 then some (.int .u64 ((hex2 b).getD 0))else none
 |_=>none
def pPe:List AV->Option AV
 | [.str b,.int .i64 16,.int .i64 8]=>if b.size=2 then some (.iface (hex2 b).isNone)else none
 |_=>none
def jt(n:Nat):UInt8:=if n<10 then UInt8.ofNat (48+n)else UInt8.ofNat (87+n)
def show1(c:UInt8):List UInt8:=if 33<=c.toNat/\c.toNat<=126/\c.toNat≠92 then[c]else[92,jt (c.toNat/16),jt (c.toNat%16)]
def bS(l:List UInt8):List UInt8:=61::l.flatMap show1
def fj(ws:List (List UInt8)):List UInt8:=Lib.join ws [32]++[10]
def inoL(n:Nat)(i:Ino):List UInt8:=if i.live then fj ["inode".toUTF8.data.toList,bz n,bz i.stamp,bz i.links,bz i.part[0],bz i.part[1]]else[]
def entL(d s:Nat)(e:Ent):List UInt8:=if e.name.size≠0 then fj ["entry".toUTF8.data.toList,bz d,bz s,e.name.data.toList,bz e.ino,bz e.stamp]else[]
def datL(x:Nat)(y:Dat):List UInt8:=if y.of≠0 then fj ["data".toUTF8.data.toList,bz x,bz y.of,bS y.text.data.toList]else[]
def textL(m:Img):List UInt8:=
 (List.finRange 8).flatMap (fun n:Fin 8=>inoL n.val m.inode[n])++((List.finRange 3).flatMap fun d:Fin 3=>(List.finRange 4).flatMap fun s:Fin 4=>entL d.val s.val m.dir[d][s])++(List.finRange 9).flatMap fun x:Fin 9=>datL x.val m.data[x]
def Img.slim(m:Img):Prop:=
 (∀n:Fin 8,i64 m.inode[n].stamp/\i64 m.inode[n].links/\i64 m.inode[n].part[0]/\i64 m.inode[n].part[1])/\
 (∀(d:Fin 3) (s:Fin 4),i64 m.dir[d][s].ino/\i64 m.dir[d][s].stamp/\m.dir[d][s].name.size<=10000)/\∀x:Fin 9,i64 m.data[x].of/\m.data[x].text.size<=10000
open Classical in
noncomputable def mI:List AV->Option AV
 | [v]=>if h:∃m:Img,v=m.enc/\m.slim then some (.str ⟨(textL h.choose).toArray⟩)else none
 |_=>none
namespace Fn
noncomputable abbrev ep.r0:=[oL 1 ac 0,oN 2 (.prim mI [(.s 1)])]
noncomputable abbrev ep.body:=gS (gR ep.r0 []) .ret
noncomputable abbrev ep:=gF 1 [.tmp 2] ep.body
abbrev bx.r0:=[pC 2 (qS #[])]
abbrev bx.r1:=[pC 3 (qS #[])]
abbrev bx.r2:=[oC 4 0]
abbrev bx.r3:=[oM 10 4,oI 11 .lss 10 8]
abbrev bx.r4:=[oM 12 4,oI 13 .add 12 1,oM 4 13]
abbrev bx.r5:=[oM 14 0,oM 15 4,oK 16 14,oE 17 ac 0 aK 16,oJ 18 8 aj 17 15,oL 19 aj 18,pN 5 aj,oS aj 5 19]
abbrev bx.r6:=[oE 20 aj 0 tB 5,oL 21 tB 20]
abbrev bx.r7:=[oM 22 3,oM 23 4,pQ 24 347 23,oN 25 (.bin .add (qS #[105,110,111,100,101,32]) (.s 24)),pV 26 .add 25 (qS #[32]),oE 27 aj 1 tI 5,oL 28 tI 27,pQ 29 347 28,oB 30 .add 26 29,pV 31 .add 30 (qS #[32]),oE 32 aj 2 tI 5,oL 33 tI 32,pQ 34 347 33,oB 35 .add 31 34,pV 36 .add 35 (qS #[32]),oE 37 aj 3 cH 5,oN 38 (.idx 2 tI (.s 37) (qI 0)),oL 39 tI 38,pQ 40 347 39,oB 41 .add 36 40,pV 42 .add 41 (qS #[32]),oE 43 aj 3 cH 5,oN 44 (.idx 2 tI (.s 43) (qI 1)),oL 45 tI 44,oA 46 347 [(.s 45)],oB 47 .add 42 46,pV 48 .add 47 (qS #[10]),oB 49 .add 22 48,oM 3 49]
abbrev bx.r8:=[oC 6 0]
abbrev bx.r9:=[oM 50 6,oI 51 .lss 50 3]
abbrev bx.r10:=[oM 52 6,oI 53 .add 52 1,oM 6 53]
abbrev bx.r11:=[oC 7 0]
abbrev bx.r12:=[oM 54 7,oI 55 .lss 54 4]
abbrev bx.r13:=[oM 56 7,oI 57 .add 56 1,oM 7 57]
abbrev bx.r14:=[oM 58 0,oM 59 6,oM 60 7,oK 61 58,oE 62 ac 1 cI 61,oJ 63 3 dC 62 59,oJ 64 4 aq 63 60,oL 65 aq 64,pN 8 aq,oS aq 8 65]
abbrev bx.r15:=[oE 66 aq 0 tS 8,oL 67 tS 66,pV 68 .neq 67 (qS #[])]
abbrev bx.r16:=[oM 69 3,oM 70 6,pQ 71 347 70,oN 72 (.bin .add (qS #[101,110,116,114,121,32]) (.s 71)),pV 73 .add 72 (qS #[32]),oM 74 7,pQ 75 347 74,oB 76 .add 73 75,pV 77 .add 76 (qS #[32]),oE 78 aq 0 tS 8,oL 79 tS 78,oB 80 .add 77 79,pV 81 .add 80 (qS #[32]),oE 82 aq 1 tI 8,oL 83 tI 82,pQ 84 347 83,oB 85 .add 81 84,pV 86 .add 85 (qS #[32]),oE 87 aq 2 tI 8,oL 88 tI 87,pQ 89 347 88,oB 90 .add 86 89,pV 91 .add 90 (qS #[10]),oB 92 .add 69 91,oM 3 92]
abbrev bx.r17:=[oC 9 0]
abbrev bx.r18:=[oM 93 9,oI 94 .lss 93 9]
abbrev bx.r19:=[oM 95 9,oI 96 .add 95 1,oM 9 96]
abbrev bx.r20:=[oM 97 0,oM 98 9,oK 99 97,oE 100 ac 2 dD 99,oJ 101 9 cf 100 98,oE 102 cf 0 tI 101,oL 103 tI 102,oI 104 .neq 103 0]
abbrev bx.r21:=[oM 105 3,oM 106 9,pQ 107 347 106,oN 108 (.bin .add (qS #[100,97,116,97,32]) (.s 107)),pV 109 .add 108 (qS #[32]),oM 110 0,oM 111 9,oK 112 110,oE 113 ac 2 dD 112,oJ 114 9 cf 113 111,oE 115 cf 0 tI 114,oL 116 tI 115,pQ 117 347 116,oB 118 .add 109 117,pV 119 .add 118 (qS #[32]),oM 120 0,oM 121 9,oK 122 120,oE 123 ac 2 dD 122,oJ 124 9 cf 123 121,oE 125 cf 1 tS 124,oL 126 tS 125,oA 127 343 [(.s 126)],oB 128 .add 119 127,pV 129 .add 128 (qS #[10]),oB 130 .add 105 129,oM 3 130]
abbrev bx.r22:=[oM 131 3,oM 2 131]
abbrev bx.body:=gS (gR bx.r0 [2]) (gS (gR bx.r1 []) (gS (gS (gR bx.r2 []) (.block 0 (.loop [0,3,4] [] (gS (gS (gR bx.r3 [10]) (gC 11 .skip (.exit 0))) (gS (.block 1 (gS (gR bx.r5 [14,15,16,17,18,19]) (gS (gR bx.r6 [20]) (gC 21 (gT bx.r7 [5,22,23,24,25,26,27,28,29,30,31,32,33,34,35,36,37,38,39,40,41,42,43,44,45,46,47,48,49]) .skip)))) (gR bx.r4 [12,13])))))) (gS (gS (gR bx.r8 []) (.block 2 (.loop [0,3,6] [] (gS (gS (gR bx.r9 [50]) (gC 51 .skip (.exit 2))) (gS (.block 3 (gS (gR bx.r11 []) (.block 4 (.loop [0,3,6,7] [] (gS (gS (gR bx.r12 [54]) (gC 55 .skip (.exit 4))) (gS (.block 5 (gS (gR bx.r14 [58,59,60,61,62,63,64,65]) (gS (gR bx.r15 [66,67]) (gC 68 (gT bx.r16 [8,69,70,71,72,73,74,75,76,77,78,79,80,81,82,83,84,85,86,87,88,89,90,91,92]) .skip)))) (gR bx.r13 [56,57]))))))) (gR bx.r10 [52,53])))))) (gS (gS (gR bx.r17 []) (.block 6 (.loop [0,3,9] [] (gS (gS (gR bx.r18 [93]) (gC 94 .skip (.exit 6))) (gS (.block 7 (gS (gR bx.r20 [97,98,99,100,101,102,103]) (gC 104 (gT bx.r21 [105,106,107,108,109,110,111,112,113,114,115,116,117,118,119,120,121,122,123,124,125,126,127,128,129,130]) .skip))) (gR bx.r19 [95,96])))))) (gS (gR bx.r22 [3,131]) .ret)))))
abbrev bx:=gF 1 [.tmp 2] bx.body
abbrev bX.r0:=[pC 2 (qS #[])]
abbrev bX.r1:=[oN 6 (.bslice true tU8 1 [(0,(.c (.int .u8 61)))]),oM 3 6]
abbrev bX.r2:=[oM 7 0,oN 8 (.len true (.s 7)),oC 9 0]
abbrev bX.r3:=[oB 10 .lss 9 8]
abbrev bX.r4:=[oM 11 9,oM 4 11]
abbrev bX.r5:=[oM 12 0,oM 13 4,oN 14 (.stridx (.s 12) (.s 13)),oM 5 14]
abbrev bX.r6:=[oM 15 5,oN 16 (.bin .gtr (.s 15) (.c (.int .u8 32))),oM 17 16,oT 18 5 17,oG 19 (.bin .lss (.s 18) (.c (.int .u8 127))) 17,oQ 20 17 19,oM 21 20,oT 22 5 21,oG 23 (.bin .neq (.s 22) (.c (.int .u8 92))) 21,oQ 24 21 23]
abbrev bX.r7:=[oM 25 3,oM 26 5,oN 27 (.bslice false tU8 1 [(0,(.s 26))]),oN 28 (.append true [] tU8 (.s 25) (.s 27)),oM 3 28]
abbrev bX.r8:=[oM 29 3,oM 30 5,oN 31 (.bin .shr (.s 30) (.c (.int .u64 4))),oN 32 (.stridx (qS #[48,49,50,51,52,53,54,55,56,57,97,98,99,100,101,102]) (.s 31)),oM 33 5,oN 34 (.bin .and (.s 33) (.c (.int .u8 15))),oN 35 (.stridx (qS #[48,49,50,51,52,53,54,55,56,57,97,98,99,100,101,102]) (.s 34)),oN 36 (.bslice false tU8 3 [(0,(.c (.int .u8 92))),(1,(.s 32)),(2,(.s 35))]),oN 37 (.append true [] tU8 (.s 29) (.s 36)),oM 3 37]
abbrev bX.r9:=[oI 38 .add 9 1,oM 9 38]
abbrev bX.r10:=[oM 39 3,oN 40 (.tostr (.s 39)),oM 2 40]
abbrev bX.body:=gS (gR bX.r0 [2]) (gS (gR bX.r1 [6]) (gS (gS (gR bX.r2 [7]) (.block 0 (.loop [0,3,8,9] [6,8,28,37] (gS (gR bX.r3 []) (gS (gC 10 .skip (.exit 0)) (gS (.block 1 (gS (gR bX.r4 [11]) (gS (gR bX.r5 [4,12,13,14]) (gS (gR bX.r6 [15,16,17,18,19,20,21,22,23]) (gC 24 (gR bX.r7 [5,25,26,27,28]) (gT bX.r8 [5,29,30,31,32,33,34,35,36,37])))))) (gR bX.r9 [38]))))))) (gS (gR bX.r10 [3,39,40]) .ret)))
abbrev bX:=gF 1 [.tmp 2] bX.body
abbrev dg.r0:=[pC 2 (qS #[])]
abbrev dg.r1:=[pC 3 (qS #[48,49,50,51,52,53,54,55,56,57,97,98,99,100,101,102])]
abbrev dg.r2:=[pC 4 (qS #[61])]
abbrev dg.r3:=[oC 5 0]
abbrev dg.r4:=[oM 7 5,oM 8 0,oN 9 (.len true (.s 8)),oB 10 .lss 7 9]
abbrev dg.r5:=[oM 11 5,oI 12 .add 11 1,oM 5 12]
abbrev dg.r6:=[oM 13 0,oM 14 5,oN 15 (.stridx (.s 13) (.s 14)),oN 16 (.conv .i64 (.s 15)),oM 6 16]
abbrev dg.r7:=[oM 17 6,oI 18 .geq 17 33,oM 19 18,oT 20 6 19,oG 21 (.bin .leq (.s 20) (qI 126)) 19,oQ 22 19 21,oM 23 22,oT 24 6 23,oG 25 (.bin .neq (.s 24) (qI 92)) 23,oQ 26 23 25]
abbrev dg.r8:=[oM 27 4,oM 28 0,oM 29 5,oM 30 5,oI 31 .add 30 1,oN 32 (.strsl (.s 28) (some (.s 29)) (some (.s 31))),oB 33 .add 27 32,oM 4 33]
abbrev dg.r9:=[oM 34 4,oM 35 3,oM 36 6,oI 37 .quo 36 16,oM 38 6,oI 39 .quo 38 16,oI 40 .add 39 1,oN 41 (.strsl (.s 35) (some (.s 37)) (some (.s 40))),oN 42 (.bin .add (qS #[92]) (.s 41)),oM 43 3,oM 44 6,oI 45 .rem 44 16,oM 46 6,oI 47 .rem 46 16,oI 48 .add 47 1,oN 49 (.strsl (.s 43) (some (.s 45)) (some (.s 48))),oB 50 .add 42 49,oB 51 .add 34 50,oM 4 51]
abbrev dg.r10:=[oM 52 4,oM 2 52]
abbrev dg.body:=gS (gR dg.r0 [2]) (gS (gR dg.r1 []) (gS (gR dg.r2 []) (gS (gS (gR dg.r3 []) (.block 0 (.loop [0,3,4,5] [] (gS (gS (gR dg.r4 [7,8,9]) (gC 10 .skip (.exit 0))) (gS (.block 1 (gS (gR dg.r6 [13,14,15,16]) (gS (gR dg.r7 [17,18,19,20,21,22,23,24,25]) (gC 26 (gR dg.r8 [27,28,29,30,31,32,33]) (gT dg.r9 [6,34,35,36,37,38,39,40,41,42,43,44,45,46,47,48,49,50,51]))))) (gR dg.r5 [11,12])))))) (gS (gR dg.r10 [4,52]) .ret))))
abbrev dg:=gF 1 [.tmp 2] dg.body
abbrev b9.r0:=[pC 2 (qS #[]),pC 3 qF]
abbrev b9.r1:=[oM 9 0,oN 10 (.len true (.s 9)),oI 11 .eql 10 0,oM 12 11,oF 13 0 12,oH 14 (.stridx (.s 13) (qI 0)) 12,oH 15 (.bin .neq (.s 14) (.c (.int .u8 61))) 12,oO 16 12 15]
abbrev b9.r2:=[pC 2 (qS #[]),pC 3 qF]
abbrev b9.r3:=[pC 4 (qS #[])]
abbrev b9.r4:=[oC 5 1]
abbrev b9.r5:=[oM 17 5,oM 18 0,oN 19 (.len true (.s 18)),oB 20 .lss 17 19]
abbrev b9.r6:=[pC 6 qF]
abbrev b9.r7:=[oC 7 0]
abbrev b9.r8:=[oM 21 7,oI 22 .lss 21 256,oM 23 22,oT 24 6 23,oG 25 (.un .not (.s 24)) 23,oQ 26 23 25]
abbrev b9.r9:=[oM 27 7,oI 28 .add 27 1,oM 7 28]
abbrev b9.r10:=[oM 29 7,oN 30 (.conv .u8 (.s 29)),oN 31 (.bslice false tU8 1 [(0,(.s 30))]),oN 32 (.tostr (.s 31)),oA 33 343 [(.s 32)],oN 34 (.strsl (.s 33) (some (qI 1)) none),oM 8 34]
abbrev b9.r11:=[oM 35 5,oM 36 8,oN 37 (.len true (.s 36)),oB 38 .add 35 37,oM 39 0,oN 40 (.len true (.s 39)),oB 41 .leq 38 40,oM 42 41,oT 43 0 42,oT 44 5 42,oT 45 5 42,oT 46 8 42,oG 47 (.len true (.s 46)) 42,pB 48 .add 45 47 42,oG 49 (.strsl (.s 43) (some (.s 44)) (some (.s 48))) 42,oT 50 8 42,pB 51 .eql 49 50 42,oQ 52 42 51]
abbrev b9.r12:=[oM 53 4,oM 54 7,oN 55 (.conv .u8 (.s 54)),oN 56 (.bslice false tU8 1 [(0,(.s 55))]),oN 57 (.tostr (.s 56)),oB 58 .add 53 57,oM 4 58]
abbrev b9.r13:=[oM 59 5,oM 60 8,oN 61 (.len true (.s 60)),oB 62 .add 59 61,oM 5 62]
abbrev b9.r14:=[pC 6 qT]
abbrev b9.r15:=[oM 63 6,pU 64 63]
abbrev b9.r16:=[pC 2 (qS #[]),pC 3 qF]
abbrev b9.r17:=[oM 65 4,oM 2 65,pC 3 qT]
abbrev b9.body:=gS (gR b9.r0 [2,3]) (gS (gS (gR b9.r1 [9,10,11,12,13,14,15]) (gC 16 (gS (gR b9.r2 []) .ret) .skip)) (gS (gR b9.r3 []) (gS (gR b9.r4 []) (gS (.block 0 (.loop [0,4,5] [] (gS (gS (gR b9.r5 [17,18,19]) (gC 20 .skip (.exit 0))) (.block 1 (gS (gR b9.r6 []) (gS (gS (gR b9.r7 []) (.block 2 (.loop [0,4,5,6,7] [] (gS (gS (gR b9.r8 [21,22,23,24,25]) (gC 26 .skip (.exit 2))) (gS (.block 3 (gS (gR b9.r10 [29,30,31,32,33,34]) (gS (gR b9.r11 [35,36,37,38,39,40,41,42,43,44,45,46,47,48,49,50,51]) (gC 52 (gS (gR b9.r12 [53,54,55,56,57,58]) (gS (gR b9.r13 [8,59,60,61,62]) (gR b9.r14 []))) .skip)))) (gR b9.r9 [27,28])))))) (gS (gR b9.r15 [6,63]) (gC 64 (gS (gR b9.r16 []) .ret) .skip)))))))) (gS (gR b9.r17 [4,65]) .ret)))))
abbrev b9:=gF 1 [.tmp 2,.tmp 3] b9.body
abbrev bu.r0:=[pC 2 (qS #[]),pC 3 qF]
abbrev bu.r1:=[oM 11 0,oN 12 (.call false [] 349 [(.s 11),(qS #[61])]),oM 10 12,oZ 13 10 0,oZ 14 10 1,oM 4 13,oM 5 14]
abbrev bu.r2:=[oM 15 5,pU 16 15]
abbrev bu.r3:=[pC 2 (qS #[]),pC 3 qF]
abbrev bu.r4:=[pC 6 (.c .nilsl)]
abbrev bu.r5:=[oM 17 4,pV 18 .neq 17 (qS #[])]
abbrev bu.r6:=[oM 19 4,oN 20 (.stridx (.s 19) (qI 0)),oM 7 20]
abbrev bu.r7:=[oM 21 4,oN 22 (.strsl (.s 21) (some (qI 1)) none),oM 4 22]
abbrev bu.r8:=[oM 23 7,oN 24 (.bin .eql (.s 23) (.c (.int .u8 92)))]
abbrev bu.r9:=[oM 25 4,oN 26 (.len true (.s 25)),oI 27 .lss 26 2]
abbrev bu.r10:=[pC 2 (qS #[]),pC 3 qF]
abbrev bu.r11:=[oM 29 4,oN 30 (.strsl (.s 29) none (some (qI 2))),oA 31 348 [(.s 30),(qI 16),(qI 8)],oM 28 31,oZ 32 28 0,oZ 33 28 1,oM 8 32,oM 9 33]
abbrev bu.r12:=[oM 34 9,oN 35 (.eqif true (.s 34) (.c (.iface false)))]
abbrev bu.r13:=[pC 2 (qS #[]),pC 3 qF]
abbrev bu.r14:=[oM 36 8,oN 37 (.conv .u8 (.s 36)),oM 38 4,oN 39 (.strsl (.s 38) (some (qI 2)) none),oM 7 37,oM 4 39]
abbrev bu.r15:=[oM 40 6,oM 41 7,oN 42 (.bslice false tU8 1 [(0,(.s 41))]),oN 43 (.append false [] tU8 (.s 40) (.s 42)),oM 6 43]
abbrev bu.r16:=[oM 44 6,oN 45 (.tostr (.s 44)),oA 46 342 [(.s 45)],oM 47 0,oB 48 .neq 46 47]
abbrev bu.r17:=[pC 2 (qS #[]),pC 3 qF]
abbrev bu.r18:=[oM 49 6,oN 50 (.tostr (.s 49)),oM 2 50,pC 3 qT]
abbrev bu.body:=gS (gR bu.r0 [2,3]) (gS (gR bu.r1 [10,11,12,13,14]) (gS (gS (gR bu.r2 [5,15]) (gC 16 (gS (gR bu.r3 []) .ret) .skip)) (gS (gR bu.r4 []) (gS (.block 0 (.loop [0,4,6] [43] (gS (gS (gR bu.r5 [17]) (gC 18 .skip (.exit 0))) (.block 1 (gS (gR bu.r6 [19,20]) (gS (gR bu.r7 [21,22]) (gS (gS (gR bu.r8 [23]) (gC 24 (gS (gS (gR bu.r9 [25,26]) (gC 27 (gS (gR bu.r10 []) .ret) .skip)) (gS (gR bu.r11 [28,29,30,31,32,33]) (gS (gS (gR bu.r12 [9,34]) (gC 35 (gS (gR bu.r13 []) .ret) .skip)) (gT bu.r14 [8,36,37,38,39])))) .skip)) (gR bu.r15 [7,40,41,42,43])))))))) (gS (gS (gR bu.r16 [0,44,45,46,47]) (gC 48 (gS (gR bu.r17 []) .ret) .skip)) (gS (gR bu.r18 [6,49,50]) .ret))))))
abbrev bu:=gF 1 [.tmp 2,.tmp 3] bu.body
abbrev nf.r0:=[pC 2 (qS #[])]
abbrev nf.r1:=[oM 3 0,oA 4 350 [(.s 3)],oM 2 4]
abbrev nf.body:=gS (gR nf.r0 [2]) (gS (gR nf.r1 [0,3,4]) .ret)
abbrev nf:=gF 1 [.tmp 2] nf.body
noncomputable abbrev cu.r0:=[oN 3 (.prim pPu [(.s 0),(.s 1),(.s 2)]),oN 4 (.prim pPe [(.s 0),(.s 1),(.s 2)])]
noncomputable abbrev cu.body:=gS (gR cu.r0 []) .ret
noncomputable abbrev cu:=gF 3 [.tmp 3,.tmp 4] cu.body
abbrev dt.r0:=[pC 4 (qS #[]),pC 5 qF]
abbrev dt.r1:=[oM 6 0,oM 7 1,oA 8 351 [(.s 6),(.s 7)],oZ 9 8 0,oZ 10 8 1,oM 4 9,oM 5 10]
abbrev dt.body:=gS (gR dt.r0 [4,5]) (gS (gR dt.r1 [0,1,6,7,8,9,10]) .ret)
abbrev dt:=gF 2 [.tmp 4,.tmp 5] dt.body
noncomputable abbrev db.r0:=[oN 1 (.prim vA [(.s 0)])]
noncomputable abbrev db.body:=gS (gR db.r0 []) .ret
noncomputable abbrev db:=gF 1 [.tmp 1] db.body
abbrev aQ.r0:=[pC 4 (qS #[]),pC 5 qF]
abbrev aQ.r1:=[oM 6 0,oM 7 1,oA 8 352 [(.s 6),(.s 7)],pU 9 8]
abbrev aQ.r2:=[oM 10 0,oM 4 10,pC 5 qF]
abbrev aQ.r3:=[oM 11 0,oM 12 1,oN 13 (.len true (.s 12)),oN 14 (.strsl (.s 11) (some (.s 13)) none),oM 4 14,pC 5 qT]
abbrev aQ.body:=gS (gR aQ.r0 [4,5]) (gS (gS (gR aQ.r1 [6,7,8]) (gC 9 (gS (gR aQ.r2 [0,10]) .ret) .skip)) (gS (gR aQ.r3 [0,1,11,12,13,14]) .ret))
abbrev aQ:=gF 2 [.tmp 4,.tmp 5] aQ.body
abbrev bO.r0:=[pC 4 qF]
abbrev bO.r1:=[oM 5 0,oN 6 (.len true (.s 5)),oM 7 1,oN 8 (.len true (.s 7)),oB 9 .geq 6 8,oM 10 9,oT 11 0 10,oT 12 1 10,oG 13 (.len true (.s 12)) 10,oG 14 (.strsl (.s 11) none (some (.s 13))) 10,oT 15 1 10,pB 16 .eql 14 15 10,oQ 17 10 16,oM 4 17]
abbrev bO.body:=gS (gR bO.r0 [4]) (gS (gR bO.r1 [0,1,5,6,7,8,9,10,11,12,13,14,15,16,17]) .ret)
abbrev bO:=gF 2 [.tmp 4] bO.body
end Fn
noncomputable def Jz:List (Option MFun):=[none,none,none,none,none,none,none,none,none,none,none,none,none,none,none,none,none,none,none,none,none,none,none,none,none,none,none,none,none,none,none,none,none,none,none,none,none,none,none,none,none,none,none,none,none,none,none,none,none,none,none,none,none,none,none,none,none,none,none,none,none,none,none,none,none,none,none,none,none,none,none,none,none,none,none,none,none,none,none,none,none,none,none,none,none,none,none,none,none,none,none,none,none,none,none,none,none,none,none,none,none,none,none,none,none,none,none,none,none,none,none,none,none,none,none,none,none,none,none,none,none,none,none,none,none,none,none,none,none,none,none,none,none,none,none,none,none,none,none,none,some Fn.ep,some Fn.bx,some Fn.bX,some Fn.dg,some Fn.b9,some Fn.bu,none,some Fn.nf,some Fn.cu,some Fn.dt,some Fn.db,some Fn.aQ,some Fn.bO,none,none]
def jG:List (Option MFun)->List (Option MFun)->List (Option MFun)
 | [],c=>c
 |a,[]=>a
 |some x::a,_::c=>some x::jG a c
 |none::a,b::c=>b::jG a c
theorem fu:∀(a c:List (Option MFun)) (i:Nat) (fn:MFun),a.getD i none=some fn->(jG a c).getD i none=some fn
 | [],c,i,fn,h=>by simp at h
 |x::a,[],i,fn,h=>by cases x<;>exact h
 |some x::a,y::c,0,fn,h=>h
 |none::a,y::c,0,fn,h=>by simp at h
 |some x::a,y::c,i+1,fn,h=>fu a c i fn h
 |none::a,y::c,i+1,fn,h=>fu a c i fn h
def EH:List (Option MFun):=jG (jG (jG (jG A3 (List.replicate 200 none++FJ)) (List.replicate 200 none++FI)) (List.replicate 200 none++JC)) (List.replicate 200 none++JB)
def dH(f:Nat):Option MFun:=EH.getD f none
theorem Jv(i:Nat)(fn:MFun)(h:mz i=some fn):dH i=some fn:=fu _ _ _ _ (fu _ _ _ _ (fu _ _ _ _ (fu _ _ _ _ h)))
theorem upE{cx:Cx}{fn:MFun}{e:St}{R:AV->HP->Prop}(h:Ok mz cx fn e R):Ok dH cx fn e R:=by
 obtain⟨n,s',v,hr,hv,hR⟩:=h
 exact⟨n,s',v,m9 Jv hr,hv,hR⟩
def HP.ob(h:HP)(n:Nat)(t:Ty)(v:AV):HP:=h.set (.obj n) ⟨t,v⟩
def HP.nw(h:HP)(t:Ty)(v:AV):HP:={h.ob h.next t v with next:=h.next+1}
section
variable{h:HP}{n m l:Nat}{t u:Ty}{v w:AV}{o:Own}
theorem Lg(a b:Img):h.cs n a b=h.ob n tCache (encC a b):=rfl
@[go_sem] theorem gm:(h.ob n t v).look (.obj n)=some ⟨t,v⟩:=by simp[HP.ob,HP.set,HP.look]
theorem b0(e:¬m=n):(h.ob n t v).look (.obj m)=h.look (.obj m):=by simp[HP.ob,HP.set,HP.look,e]
theorem n9(e:¬m=n):(h.ob n t v).obj m=h.obj m:=by simp[HP.ob,HP.set,e]
@[go_sem] theorem EY:(h.ob n t v).look (.arg m)=h.look (.arg m):=rfl
@[go_sem] theorem O4:(h.ob n t v).ob n u w=h.ob n u w:=by
 simp only[HP.ob,HP.set];congr 1;funext k;by_cases e:k=n<;>simp[e]
@[go_sem] theorem DG:(h.push l o).ob n t v=(h.ob n t v).push l o:=rfl
@[go_sem] theorem Mh:(h.push l o).nw t v=(h.nw t v).push l o:=rfl
@[go_sem] theorem Mn:(h.ob n t v).next=h.next:=rfl
@[go_sem] theorem Mo:(h.nw t v).next=h.next+1:=rfl
@[go_sem] theorem HT:(h.push l o).next=h.next:=rfl
@[go_sem] theorem d7:(h.nw t v).look (.obj h.next)=some ⟨t,v⟩:=by simp[HP.nw,HP.ob,HP.set,HP.look]
theorem fv(e:¬m=h.next):(h.nw t v).look (.obj m)=h.look (.obj m):=by simp[HP.nw,HP.ob,HP.set,HP.look,e]
theorem xv(e:m<h.next):(h.nw t v).look (.obj m)=h.look (.obj m):=fv (by omega)
@[go_sem] theorem FU:(h.push l o).look (.obj n)=h.look (.obj n):=rfl
@[go_sem] theorem Dl:(h.push l o).look (.arg n)=h.look (.arg n):=rfl
@[go_sem] theorem Km:(h.nw t v).ob h.next u w=h.nw u w:=by
 simp only[HP.nw,HP.ob,HP.set];congr 1;funext k;by_cases e:k=h.next<;>simp[e]
end
variable{c:Bool}{e t:MC}{f n:Nat}{o:MK}{p:Prop}
section
variable{T:MTb}{cx:Cx}{k:List Item}{kill:List Nat}{r:List MOp}{sl:Slots}{own:Own}{h:HP}{Q:St->Prop}
@[go_sem] theorem O8(n l t:Nat)(p:List Nat)(u:Ty):fg (.ptr (.obj n) p u) (.stk l t)=.ptr (.obj n) p u:=au (ar n l) p u
@[go_sem] theorem Kt(n l t:Nat)(p:List Nat)(u:Ty):(AV.ptr (.obj n) p u).leads (.stk l t)=false:=af (ar n l) p u
@[go_sem] theorem Oe(n l t:Nat)(a b:Nat):fg (.sl (.obj n) a b) (.stk l t)=.sl (.obj n) a b:=BJ (ar n l) a b
@[go_sem] theorem MW(n l t:Nat)(a b:Nat):fg (.sl (.arg n) a b) (.stk l t)=.sl (.arg n) a b:=BJ (Ah n l) a b
@[go_sem] theorem Oc(i:Id):fg .slz i=.slz:=rfl
@[go_sem] theorem H4(i:Id):AV.slz.leads i=false:=rfl
@[go_sem] theorem E1(i:Id):AV.nilsl.leads i=false:=rfl
@[go_sem] theorem H6(n l t:Nat)(a b:Nat):(AV.sl (.obj n) a b).leads (.stk l t)=false:=by simp[AV.leads,AV.isAgg,AV.names]
@[go_sem] theorem Ma(n:Nat)(p:List Nat):St.rd cx ⟨sl,own,h⟩ (.obj n) p=(h.look (.obj n)).bind fun b=>b.val.at p:=rfl
@[go_sem] theorem EP(n:Nat)(p:List Nat):St.rd cx ⟨sl,own,h⟩ (.arg n) p=(h.look (.arg n)).bind fun b=>b.val.at p:=rfl
@[go_sem] theorem no(n:Nat):St.look cx ⟨sl,own,h⟩ (.obj n)=h.look (.obj n):=rfl
@[go_sem] theorem Kp(n:Nat):St.look cx ⟨sl,own,h⟩ (.arg n)=h.look (.arg n):=rfl
@[go_sem] theorem Fv(n l t:Nat)(p:List Nat)(u:Ty):AV.apart (.obj n) (.ptr (.stk l t) p u)=true:=by simp[AV.apart]
@[go_sem] theorem Fu(n l t:Nat)(p:List Nat)(u:Ty):AV.apart (.stk l t) (.ptr (.obj n) p u)=true:=ah (ar n l) p u
theorem cN{t:Ty}{p:List Nat}{v:AV}(hl:cx.prot.lets (.obj n)=true):stV cx t (.ptr (.obj n) p t) v ⟨sl,own,h⟩=
  if t.fits v=true then(h.look (.obj n)).bind fun b=>(b.val.put p v).map fun u=>⟨sl,own,h.ob n b.ty u⟩else none:=by
 simp only[stV,true_and,St.look,Id.own]
 split
 ·cases h.look (.obj n)with
  |none=>rfl
  |some b=>
   simp only[Option.bind]
   cases b.val.put p v with
   |none=>rfl
   |some u=>simp only[St.write,Id.own,hl,if_true,Option.map];rfl
 ·rfl
theorem Cs[Decidable p]{d:Option Nat}{s:St}(h1:p->WG T cx (.bool true) c d o r kill k s Q)(h2:¬p->WG T cx (.bool false) c d o r kill k s Q):WG T cx (.bool (decide p)) c d o r kill k s Q:=by
 by_cases hp:p
 ·rw[decide_eq_true hp];exact h1 hp
 ·rw[decide_eq_false hp];exact h2 hp
theorem Cu[Decidable p]{s:St}(h1:p->WC T cx (.bool true) t e k s Q)(h2:¬p->WC T cx (.bool false) t e k s Q):WC T cx (.bool (decide p)) t e k s Q:=by
 by_cases hp:p
 ·rw[decide_eq_true hp];exact h1 hp
 ·rw[decide_eq_false hp];exact h2 hp
theorem yS[Decidable p]{d:Option Nat}{s:St}(h1:p->WG T cx (.bool false) c d o r kill k s Q)(h2:¬p->WG T cx (.bool true) c d o r kill k s Q):WG T cx (.bool (!decide p)) c d o r kill k s Q:=by
 by_cases hp:p
 ·rw[decide_eq_true hp];exact h1 hp
 ·rw[decide_eq_false hp];exact h2 hp
theorem yU[Decidable p]{s:St}(h1:p->WC T cx (.bool false) t e k s Q)(h2:¬p->WC T cx (.bool true) t e k s Q):WC T cx (.bool (!decide p)) t e k s Q:=by
 by_cases hp:p
 ·rw[decide_eq_true hp];exact h1 hp
 ·rw[decide_eq_false hp];exact h2 hp
theorem yT{b:Bool}{d:Option Nat}{s:St}(h1:b=true->WG T cx (.bool true) c d o r kill k s Q)(h2:b=false->WG T cx (.bool false) c d o r kill k s Q):WG T cx (.bool b) c d o r kill k s Q:=by
 cases b
 ·exact h2 rfl
 ·exact h1 rfl
theorem yV{b:Bool}{s:St}(h1:b=true->WC T cx (.bool true) t e k s Q)(h2:b=false->WC T cx (.bool false) t e k s Q):WC T cx (.bool b) t e k s Q:=by
 cases b
 ·exact h2 rfl
 ·exact h1 rfl
theorem nN{prot:Bool}{args:List Opd}{d:Option Nat}{fn:MFun}{R:AV->HP->Prop}(hf:T f=some fn)(hp:fn.params=args.length/\fn.nfree=0)
  (hc:Ok T (St.callCx ⟨sl,own,h⟩ cx prot) fn (St.enter (args.map (St.opd ⟨sl,own,h⟩)) (h.push cx.lvl own)) fun v' h'=>∃h1:HP,h'=h1.push cx.lvl own/\h1.stk=h.stk/\R v' h1)
  (hq:∀v h1,R v h1->W T cx (.ops r kill::k) (St.setd ⟨sl,own,h1⟩ d v) Q):
  W T cx (.ops (⟨d,.call prot [] f args,none⟩::r) kill::k) ⟨sl,own,h⟩ Q:=by
 refine kM hf hp hc ?_
 rintro v h' ⟨h1,rfl,hs,hR⟩
 have:St.pop ⟨sl,own,h⟩ cx.lvl [] (h1.push cx.lvl own)=⟨sl,own,h1⟩:=by
  simp only[St.pop,HP.pop,HP.push,Own.unveil,if_true]
  congr 1
  cases h1
  simp only at hs
  subst hs
  simp only[HP.mk.injEq,and_true]
  funext l
  by_cases hl:l=cx.lvl<;>simp[hl]
 rw[this];exact hq v h1 hR
theorem gv{α:Type}{keep ko:List Nat}{b:MC}{s:St}(N:Nat)(S:Nat->α->St)(P:Nat->α->Prop)(a0:α)(h0:s.keep keep ko=S 0 a0)(p0:P 0 a0)
  (step:∀j a,j<=N->P j a->(∀s' a',j<N->s'.keep keep ko=S (j+1) a'->P (j+1) a'->W T cx (.inLoop keep ko b::k) s' Q)->W T cx (.code b:: .inLoop keep ko b::k) (S j a) Q):
  W T cx (.code (.loop keep ko b)::k) s Q:=
 x8 N (fun j s=>∃a,s=S j a/\P j a) ⟨a0,h0,p0⟩ fun j s hj hs ih=>by
  obtain⟨a,rfl,hp⟩:=hs
  exact step j a hj hp fun s' a' hlt he hp'=>ih s' hlt ⟨a',he,hp'⟩
@[go_sem] theorem HK(c:Bool)(x y:AV):sG (.bool c) x y=some (if c=true then x else y):=by cases c<;>rfl
end
structure SStep where
 kind:Int
 dir:Int
 toDir:Int
 p:Int
 name:Str
 to:Str
 text:Str
def SStep.enc(x:SStep):AV:=.cons (.int .i64 x.kind) (.cons (.int .i64 x.dir) (.cons (.int .i64 x.toDir) (.cons (.int .i64 x.p) (.cons (.str x.name) (.cons (.str x.to) (.cons (.str x.text) .unit))))))
@[go_sem] theorem Lo(x:SStep):x.enc.at [0]=some (.int .i64 x.kind):=rfl
@[go_sem] theorem Ln(x:SStep):x.enc.at [1]=some (.int .i64 x.dir):=rfl
@[go_sem] theorem Lm(x:SStep):x.enc.at [2]=some (.int .i64 x.toDir):=rfl
@[go_sem] theorem Ll(x:SStep):x.enc.at [3]=some (.int .i64 x.p):=rfl
@[go_sem] theorem Lk(x:SStep):x.enc.at [4]=some (.str x.name):=rfl
@[go_sem] theorem Lj(x:SStep):x.enc.at [5]=some (.str x.to):=rfl
@[go_sem] theorem Li(x:SStep):x.enc.at [6]=some (.str x.text):=rfl
@[go_sem] theorem Ff:aD.field 0=some tI:=rfl
@[go_sem] theorem Fe:aD.field 1=some tI:=rfl
@[go_sem] theorem Fd:aD.field 2=some tI:=rfl
@[go_sem] theorem Fc:aD.field 3=some tI:=rfl
@[go_sem] theorem Fb:aD.field 4=some tS:=rfl
@[go_sem] theorem Fa:aD.field 5=some tS:=rfl
@[go_sem] theorem E9:aD.field 6=some tS:=rfl
@[go_sem] theorem Iv(x:SStep):(aD.fits x.enc=true)=True:=eq_true rfl
@[go_sem] theorem MQ(x:SStep)(i:Id):fg x.enc i=x.enc:=rfl
@[go_sem] theorem F3(x:SStep)(i:Id):x.enc.leads i=false:=rfl
@[go_sem] theorem F9(x:SStep):x.enc.isAgg=true:=rfl
@[go_sem] theorem HA(x:SStep):x.enc.safe=true:=rfl
def dirFaultN(d:Int)(s:Str):Int:=if d<0\/3<=d then 1 else if cO s=true then 0 else 2
def co(x:SStep):Int:=
 if x.kind<1\/6<x.kind then 7 else
 if dirFaultN x.dir x.name≠0 then dirFaultN x.dir x.name else
 if x.kind=2\/x.kind=4 then dirFaultN x.toDir x.to else
 if(x.kind=5\/x.kind=6)/\(x.p<0\/2<=x.p)then 1 else
 if x.kind=5/\8<x.text.size then 3 else 0
variable{d:Int}{s:Str}{x:SStep}
section
variable{cx:Cx}{h:HP}
theorem CJ(hs:s.size<=9223372036854775807):Ok dH cx Fn.cB (St.enter [.str s] h) fun v h'=>v=.bool (cO s)/\h'=h:=by
 rw[aE]
 simp(disch:=omega)only[go_sem]
 refine cm s.size (fun j=>⟨[(0,.str s),(5,.int .i64 s.size),(6,.int .i64 j)],[],h⟩) (fun j=>∀i,i<j->badByte s i=false) (by simp only[go_sem]<;>rfl) (fun i hi=>by omega) fun j hj hp ih=>?_
 by_cases hlt:j<s.size
 ·simp(disch:=omega)only[go_sem,hlt]
  by_cases h1:byteAt s j<97
  ·simp(disch:=omega)only[go_sem,hlt]
   have:anyN s.size (badByte s)=true:=dQ hlt (by simp[badByte,h1])
   simp[cO,this]
  ·by_cases h2:122<byteAt s j
   ·simp(disch:=omega)only[go_sem,hlt]
    have:anyN s.size (badByte s)=true:=dQ hlt (by simp[badByte,h2])
    simp[cO,this]
   ·simp(disch:=omega)only[go_sem,hlt]
    refine ih _ hlt (aJ hp (by simp[badByte,h1,h2])) ?_
    simp only[go_sem]
 ·obtain rfl:j=s.size:=by omega
  have hn:anyN s.size (badByte s)=false:=anyN_false.2 hp
  simp(disch:=omega)only[go_sem]
  by_cases h1:s=⟨#[]⟩
  ·simp(disch:=omega)only[go_sem,h1];simp[cO]
  ·by_cases h2:s.size<=6
   ·simp(disch:=omega)only[go_sem,h1]
    simp[cO,hn,h1,h2]
   ·simp(disch:=omega)only[go_sem,h1]
    simp[cO,hn,h1,h2]
theorem rS(hs:s.size<=9223372036854775807):Ok dH cx Fn.cX (St.enter [.str s] h) fun v h'=>v=.bool (cO s)/\h'=h:=by
 rw[aE]
 simp(disch:=omega)only[go_sem]
 by_cases h1:s.size=0
 ·have e:=lU.2 h1
  simp(disch:=omega)only[go_sem]
  simp[cO,e]
 have e:¬s=⟨#[]⟩:=fun e=>h1 (lU.1 e)
 by_cases h2:s.size<=6
 ·simp(disch:=omega)only[go_sem]
  refine cm s.size (fun j=>⟨[(0,.str s),(3,.int .i64 j)],[],h⟩) (fun j=>∀i,i<j->badByte s i=false) (by simp only[go_sem]<;>rfl) (fun i hi=>by omega) fun j hj hp ih=>?_
  by_cases hlt:j<s.size
  ·simp(disch:=omega)only[go_sem,hlt]
   by_cases h1:byteAt s j<97
   ·simp(disch:=omega)only[go_sem,hlt]
    have:anyN s.size (badByte s)=true:=dQ hlt (by simp[badByte,h1])
    simp[cO,this]
   ·by_cases h2:122<byteAt s j
    ·simp(disch:=omega)only[go_sem,hlt]
     have:anyN s.size (badByte s)=true:=dQ hlt (by simp[badByte,h2])
     simp[cO,this]
    ·simp(disch:=omega)only[go_sem,hlt]
     refine ih _ hlt (aJ hp (by simp[badByte,h1,h2])) ?_
     simp only[go_sem]
  ·obtain rfl:j=s.size:=by omega
   have hn:anyN s.size (badByte s)=false:=anyN_false.2 hp
   simp(disch:=omega)only[go_sem]
   simp[cO,hn,e,h2]
 ·simp(disch:=omega)only[go_sem]
  simp[cO,h2]
theorem ou(hs:s.size<=9223372036854775807):Ok dH cx Fn.cQ (St.enter [.int .i64 d,.str s] h) fun v h'=>v=.int .i64 (dirFaultN d s)/\h'=h:=by
 rw[aE]
 by_cases c1:d<0
 ·simp(disch:=omega)only[go_sem,c1];simp[dirFaultN,c1]
 ·by_cases c2:3<=d
  ·simp(disch:=omega)only[go_sem,c1,c2];simp[dirFaultN,c2]
  ·simp(disch:=omega)only[go_sem,c1,c2]
   refine am rfl ⟨rfl,rfl⟩ (by simp only[go_sem];exact CJ hs) ?_
   cases c3:cO s<;>simp(disch:=omega)only[go_sem,c3]<;>simp[dirFaultN,c1,c2,c3]
theorem tT(h1:x.name.size<=9223372036854775807)(h2:x.to.size<=9223372036854775807)(h3:x.text.size<=9223372036854775807):Ok dH cx Fn.bH (St.enter [x.enc] h) fun v h'=>v=.int .i64 (co x)/\h'=h:=by
 rw[aE]
 simp(disch:=omega)only[go_sem]
 by_cases c1:x.kind<1
 ·simp(disch:=omega)only[go_sem,c1];simp[co,c1]
 by_cases c2:6<x.kind
 ·simp(disch:=omega)only[go_sem,c1,c2];simp[co,c2]
 simp(disch:=omega)only[go_sem,c1,c2]
 refine am rfl ⟨rfl,rfl⟩ (by simp only[go_sem];exact ou h1) ?_
 simp(disch:=omega)only[go_sem]
 by_cases c3:dirFaultN x.dir x.name=0
 ·simp(disch:=omega)only[go_sem,c3]
  by_cases c4:x.kind=2
  ·simp(disch:=omega)only[go_sem,c4]
   refine am rfl ⟨rfl,rfl⟩ (by simp only[go_sem];exact ou h2) ?_
   simp(disch:=omega)only[go_sem];simp[co,c3,c4]
  by_cases c5:x.kind=4
  ·simp(disch:=omega)only[go_sem,c4,c5]
   refine am rfl ⟨rfl,rfl⟩ (by simp only[go_sem];exact ou h2) ?_
   simp(disch:=omega)only[go_sem];simp[co,c3,c5]
  simp(disch:=omega)only[go_sem,c4,c5]
  (repeat' (first|simp(maxSteps:=999999) (disch:=first|assumption|omega)only[go_sem]|refine yS (fun _=>?_) (fun _=>?_)|refine yU (fun _=>?_) (fun _=>?_)|refine Cs (fun _=>?_) (fun _=>?_)|refine Cu (fun _=>?_) (fun _=>?_)|refine yT (fun _=>?_) (fun _=>?_)|refine yV (fun _=>?_) (fun _=>?_)))<;>simp_all[co]<;>omega
 ·simp(disch:=omega)only[go_sem,c3]
  simp[co,c1,c2,c3]
theorem nO(h1:x.name.size<=9223372036854775807)(h2:x.to.size<=9223372036854775807)(h3:x.text.size<=9223372036854775807):Ok dH cx Fn.aI (St.enter [x.enc] h) fun v h'=>v=.int .i64 (co x)/\h'=h:=by
 rw[aE]
 (repeat' (first|simp(maxSteps:=999999) (disch:=first|assumption|omega)only[go_sem]|(refine am rfl ⟨rfl,rfl⟩ (by simp only[go_sem];exact rS h1) ?_)|(refine am rfl ⟨rfl,rfl⟩ (by simp only[go_sem];exact rS h2) ?_)|refine yS (fun _=>?_) (fun _=>?_)|refine yU (fun _=>?_) (fun _=>?_)|refine Cs (fun _=>?_) (fun _=>?_)|refine Cu (fun _=>?_) (fun _=>?_)|refine yT (fun _=>?_) (fun _=>?_)|refine yV (fun _=>?_) (fun _=>?_)))<;>simp_all[co,dirFaultN]<;>omega
end
def gP(a b:Img):Int:=findN 8 fun k=>!(a.ino k).live&&decide (refs b k=0)
def gp(a b:Img):Int:=findN 9 fun x=>!held a x&& !held b x
def room(a b:Img)(d:Int)(s:Str):Int:=if 0<=cr b d s then -1 else dN a b d
def addName(a:Img)(d s:Nat)(name:Str)(n:Nat):Img:=
 (a.setEnt d s ⟨name,n,(a.ino n).stamp⟩).setIno n {a.ino n with links:=IntKind.i64.wrap ((a.ino n).links+1)}
def dropName(a:Img)(d s:Nat):Img:=
 let n:=(a.ent d s).ino.toNat
 let i:Ino:={a.ino n with links:=IntKind.i64.wrap ((a.ino n).links-1)}
 if i.links=0 then(a.setEnt d s .zero).setIno n .none else(a.setEnt d s .zero).setIno n i
def eG(a b:Img)(d:Int)(name:Str):Int:=if 0<=cr a d name then 4 else if room a b d name<0 then 6 else 0
def enterA(a b:Img)(d:Int)(name:Str)(n:Nat):Img:=if eG a b d name=0 then addName a d.toNat (room a b d name).toNat name n else a
def km(st:Int):Ino:=⟨true,st,0,Ino.none.part⟩
structure Fl where
 now:Img
 disk:Img
 stamp:Int
def iG(F:Fl)(d:Int)(name:Str):Int:=if 0<=cr F.now d name then 4 else if gP F.now F.disk<0\/room F.now F.disk d name<0 then 6 else 0
def gB(F:Fl)(d:Int)(name:Str):Fl:=if iG F d name=0 then
  ⟨addName (F.now.setIno (gP F.now F.disk).toNat (km (IntKind.i64.wrap (F.stamp+1)))) d.toNat (room F.now F.disk d name).toNat name (gP F.now F.disk).toNat,F.disk,IntKind.i64.wrap (F.stamp+1)⟩else F
def qh(a b:Img)(n p:Nat):Int:=if(a.ino n).prt p<0/\gp a b<0 then 6 else 0
def mG(a b:Img)(n p:Nat)(t:Str):Img:=if(a.ino n).prt p<0 then
  (if gp a b<0 then a else(a.setIno n ((a.ino n).setPrt p (gp a b))).setDat (gp a b).toNat ⟨(a.ino n).stamp,t⟩)
 else a.setDat ((a.ino n).prt p).toNat ⟨(a.ino n).stamp,t⟩
def doC(F:Fl)(x:SStep):Int:=
 if co x≠0 then co x else
 if x.kind=1 then iG F x.dir x.name else
 if cr F.now x.dir x.name<0 then 5 else
 if x.kind=2\/x.kind=4 then eG F.now F.disk x.toDir x.to else
 if x.kind=5 then qh F.now F.disk (F.now.ent x.dir.toNat (cr F.now x.dir x.name).toNat).ino.toNat x.p.toNat else 0
def doF(F:Fl)(x:SStep):Fl:=
 if doC F x≠0 then F else
 if x.kind=1 then gB F x.dir x.name else
 let s:=(cr F.now x.dir x.name).toNat
 let n:=(F.now.ent x.dir.toNat s).ino.toNat
 if x.kind=2 then{F with now:=enterA F.now F.disk x.toDir x.to n}else
 if x.kind=4 then{F with now:=dropName (enterA F.now F.disk x.toDir x.to n) x.dir.toNat s}else
 if x.kind=3 then{F with now:=dropName F.now x.dir.toNat s}else
 if x.kind=5 then{F with now:=mG F.now F.disk n x.p.toNat x.text}else
 {F with now:=F.now.setIno n ((F.now.ino n).setPrt x.p.toNat (-1))}
def WF(a:Img):Prop:=(∀d s,0<=(a.ent d s).ino/\(a.ent d s).ino<8)/\∀n p,-1<=(a.ino n).prt p/\(a.ino n).prt p<9
theorem e8(h:co x=0):(1<=x.kind/\x.kind<=6)/\(0<=x.dir/\x.dir<3)/\cO x.name=true/\(x.kind=2\/x.kind=4->(0<=x.toDir/\x.toDir<3)/\cO x.to=true)/\(x.kind=5\/x.kind=6->0<=x.p/\x.p<2)/\(x.kind=5->x.text.size<=8):=by
 unfold co at h
 split at h
 ·omega
 split at h
 ·exact absurd h (by assumption)
 rename_i h1 h2
 have h2:dirFaultN x.dir x.name=0:=by simpa using h2
 have key:∀d s,dirFaultN d s=0->(0<=d/\d<3)/\cO s=true:=by
  intro d s hd
  unfold dirFaultN at hd
  split at hd
  ·omega
  ·split at hd
   ·rename_i h3 h4;exact⟨by omega,h4⟩
   ·omega
 obtain⟨k1,k2⟩:=key _ _ h2
 refine⟨by omega,k1,k2,fun hk=>?_,fun hk=>?_,fun hk=>?_⟩
 ·rw[if_pos hk]at h;exact key _ _ h
 ·rw[if_neg (by omega)]at h
  split at h
  ·omega
  ·rename_i h3;omega
 ·rw[if_neg (by omega)]at h
  split at h
  ·omega
  ·split at h
   ·omega
   ·rename_i h3 h4;omega
theorem dW(a:Img)(d:Int)(s:Str):cr a d s= -1\/∃k:Nat,k<4/\cr a d s=k/\0<=d/\d<3/\(a.ent d.toNat k).name=s/\¬s=⟨#[]⟩:=by
 unfold cr
 split
 ·exact .inl rfl
 ·rename_i hn
  rcases ip (f:=fun k=>decide ((a.ent d.toNat k).name=s)) (n:=4)with e|⟨j,h1,e,h2,_⟩
  ·exact .inl e
  ·exact .inr ⟨j,h1,e,by omega,by omega,by simpa using h2,fun e'=>hn (by simp[e'])⟩
theorem lu(a b:Img)(d:Int):dN a b d= -1\/∃k:Nat,k<4/\dN a b d=k/\0<=d/\d<3/\(a.ent d.toNat k).name=⟨#[]⟩/\(b.ent d.toNat k).name=⟨#[]⟩:=by
 unfold dN
 split
 ·exact .inl rfl
 ·rename_i hn
  rcases ip (f:=fun s=>decide ((a.ent d.toNat s).name=⟨#[]⟩)&&decide ((b.ent d.toNat s).name=⟨#[]⟩)) (n:=4)with e|⟨j,h1,e,h2,_⟩
  ·exact .inl e
  ·simp at h2
   exact .inr ⟨j,h1,e,by omega,by omega,h2.1,h2.2⟩
theorem iZ(a b:Img)(d:Int)(s:Str):room a b d s= -1\/∃k:Nat,k<4/\room a b d s=k/\0<=d/\d<3/\(a.ent d.toNat k).name=⟨#[]⟩/\(b.ent d.toNat k).name=⟨#[]⟩/\cr b d s<0:=by
 unfold room
 split
 ·exact .inl rfl
 ·rename_i hn
  rcases lu a b d with e|⟨k,h1,e,h2,h3,h4,h5⟩
  ·exact .inl e
  ·exact .inr ⟨k,h1,e,h2,h3,h4,h5,by omega⟩
theorem jH(a b:Img):gP a b= -1\/∃k:Nat,k<8/\gP a b=k/\(a.ino k).live=false/\refs b k=0:=by
 rcases ip (f:=fun k=>!(a.ino k).live&&decide (refs b k=0)) (n:=8)with e|⟨j,h1,e,h2,_⟩
 ·exact .inl e
 ·simp at h2;exact .inr ⟨j,h1,e,h2.1,h2.2⟩
theorem jI(a b:Img):gp a b= -1\/∃k:Nat,k<9/\gp a b=k/\held a k=false/\held b k=false:=by
 rcases ip (f:=fun x=>!held a x&& !held b x) (n:=9)with e|⟨j,h1,e,h2,_⟩
 ·exact .inl e
 ·simp at h2;exact .inr ⟨j,h1,e,h2.1,h2.2⟩
def encF(c:Nat)(st:Int):AV:=.cons (.ptr (.obj c) [] tCache) (.cons (.int .i64 st) .unit)
@[go_sem] theorem Pf(c:Nat)(st:Int):(encF c st).at [0]=some (.ptr (.obj c) [] tCache):=rfl
@[go_sem] theorem Pe(c:Nat)(st:Int):(encF c st).at [1]=some (.int .i64 st):=rfl
@[go_sem] theorem NS(c:Nat)(st n:Int):(encF c st).put [1] (.int .i64 n)=some (encF c n):=rfl
@[go_sem] theorem KQ:tFiles.field 0=some tP:=rfl
@[go_sem] theorem KP:tFiles.field 1=some tI:=rfl
@[go_sem] theorem Gk(c:Nat)(st:Int):(tFiles.fits (encF c st)=true)=True:=eq_true rfl
@[go_sem] theorem KH(n:Nat)(p:List Nat)(t:Ty):uq tP (some (.ptr (.obj n) p t))=some (.ptr (.obj n) p t):=rfl
@[go_sem] theorem N2(c:Nat):fill tFiles tFiles.zero [(0,.ptr (.obj c) [] tCache)]=some (encF c 0):=rfl
@[go_sem] theorem Iy(c:Nat)(st:Int)(i:Id):fg (encF c st) i=encF c st:=rfl
@[go_sem] theorem Mx(n:Nat)(p:List Nat)(t:Ty):(tP.fits (.ptr (.obj n) p t)=true)=True:=eq_true rfl
@[go_sem] theorem NT(a b:Img)(p:List Nat)(x:AV):(encC a b).put (0::p) x=(a.enc.put p x).map fun y=>.cons y (.cons b.enc .unit):=rfl
@[go_sem] theorem Cmk(a b:Img):AV.cons a.enc (.cons b.enc .unit)=encC a b:=rfl
@[go_sem] theorem EO{cx:Cx}{s:St}:results cx s []=some (.tup .unit):=rfl
theorem eJ{h:HP}{t:Ty}{v:AV}(e:h.look (.obj n)=some ⟨t,v⟩):h.ob n t v=h:=by
 cases h
 simp only[HP.look]at e
 simp only[HP.ob,HP.set,HP.mk.injEq,and_true,true_and]
 funext k
 by_cases hk:k=n<;>simp[hk,e]
section
variable{cx:Cx}{h:HP}{c:Nat}{a b:Img}
theorem yH(hC:h.look (.obj c)=some ⟨tCache,encC a b⟩):Ok dH cx Fn.di (St.enter [.ptr (.obj c) [] tCache] h) fun v h'=>v=b.enc/\h'=h:=upE (C5 (jN hC).1 (jN hC).2)
theorem GV(hC:h.look (.obj c)=some ⟨tCache,encC a b⟩):Ok dH cx Fn.bc (St.enter [.ptr (.obj c) [] tCache] h) fun v h'=>v=.int .i64 (gP a b)/\h'=h:=upE (AG (jN hC).1 (jN hC).2)
theorem Le(hC:h.look (.obj c)=some ⟨tCache,encC a b⟩):Ok dH cx Fn.bw (St.enter [.ptr (.obj c) [] tCache] h) fun v h'=>v=.int .i64 (gp a b)/\h'=h:=upE (C6 (jN hC).1 (jN hC).2)
theorem Ld(hC:h.look (.obj c)=some ⟨tCache,encC a b⟩):Ok dH cx Fn.aR (St.enter [.ptr (.obj c) [] tCache,.int .i64 d] h) fun v h'=>v=.int .i64 (dN a b d)/\h'=h:=upE (C4 (jN hC).1 (jN hC).2)
theorem mT(hC:h.look (.obj c)=some ⟨tCache,encC a b⟩):Ok dH cx Fn.b8 (St.enter [.ptr (.obj c) [0] ac,.int .i64 d,.str s] h) fun v h'=>v=.int .i64 (cr a d s)/\h'=h:=upE (up (yY (ar _ _) (jN hC).1))
theorem yB{st:Int}(hF:h.look (.obj f)=some ⟨tFiles,encF c st⟩)(hC:h.look (.obj c)=some ⟨tCache,encC a b⟩):
  Ok dH cx Fn.cl (St.enter [.ptr (.obj f) [] tFiles,.int .i64 d,.str s] h) fun v h'=>v=.int .i64 (room a b d s)/\h'=h:=by
 rw[aE]
 simp(disch:=omega)only[go_sem,hF,hC]
 refine am rfl ⟨rfl,rfl⟩ (by simp only[go_sem];exact yH (a:=a) (b:=b) (by simp only[go_sem,hC])) ?_
 simp(disch:=omega)only[go_sem,hF,hC]
 refine am rfl ⟨rfl,rfl⟩ (by simp only[go_sem];exact upE (up (yY (m:=b) (cV _ _) (by simp only[go_sem,HP.push_rd_own])))) ?_
 simp(disch:=omega)only[go_sem,hF,hC]
 by_cases c1:0<=cr b d s
 ·simp(disch:=omega)only[go_sem,c1];simp[room,c1]
 ·simp(disch:=omega)only[go_sem,c1,hF,hC]
  refine am rfl ⟨rfl,rfl⟩ (by simp only[go_sem];exact Ld (a:=a) (b:=b) (by simp only[go_sem,hC])) ?_
  simp(disch:=omega)only[go_sem];simp[room,c1]
abbrev HL(cx:Cx):Prop:=∀n,cx.prot.lets (.obj n)=true
theorem wo{st:Int}(hl:HL cx)(hF:h.look (.obj f)=some ⟨tFiles,encF c st⟩)(hC:h.look (.obj c)=some ⟨tCache,encC a b⟩)(hne:¬f=c)(hn:n<8):
  Ok dH cx Fn.bo (St.enter [.ptr (.obj f) [] tFiles,.int .i64 d,.str s,.int .i64 n] h) fun v h'=>v=.int .i64 (eG a b d s)/\h'=h.ob c tCache (encC (enterA a b d s n) b):=by
 rw[aE]
 simp(disch:=omega)only[go_sem,hF,hC]
 refine am rfl ⟨rfl,rfl⟩ (by simp only[go_sem];exact mT (a:=a) (b:=b) (by simp only[go_sem,hC])) ?_
 simp(disch:=omega)only[go_sem]
 by_cases c1:0<=cr a d s
 ·simp(disch:=omega)only[go_sem,c1]
  simp[eG,enterA,c1,eJ hC]
 simp(disch:=omega)only[go_sem,c1]
 refine am rfl ⟨rfl,rfl⟩ (by simp only[go_sem];exact yB (a:=a) (b:=b) (c:=c) (st:=st) (by simp only[go_sem,hF]) (by simp only[go_sem,hC])) ?_
 simp(disch:=omega)only[go_sem]
 rcases iZ a b d s with e|⟨k,hk,e,d0,d3,_⟩
 ·simp(disch:=omega)only[go_sem,e]
  simp[eG,enterA,c1,e,eJ hC]
 ·have k0:¬(k:Int)<0:=by omega
  simp(disch:=omega)only[go_sem,e,k0,hF,hC,cN (hl _),b0 hne]
  simp[eG,enterA,c1,e,k0,addName]
end
theorem dX(m:Img)(n:Nat)(x y:Ino):(m.setIno n x).setIno n y=m.setIno n y:=by
 refine Img.ext_of (fun k hk=>?_) (fun d s _ _=>rfl) (fun x _=>rfl)
 simp only[g8]
 split<;>rfl
theorem mv(a b:Img)(n:Nat)(y:Ino)(d:Int)(s:Str):eG (a.setIno n y) b d s=eG a b d s:=rfl
theorem vp(a b:Img)(n:Nat)(y:Ino)(d:Int)(s:Str):room (a.setIno n y) b d s=room a b d s:=rfl
variable{a:Img}
theorem iY(hw:WF a){y:Ino}(hy:∀p,-1<=y.prt p/\y.prt p<9):WF (a.setIno n y):=by
 refine⟨hw.1,fun k p=>?_⟩
 rw[g8]
 split
 ·exact hy p
 ·exact hw.2 k p
theorem tK(hw:WF a){d s:Nat}{y:Ent}(hy:0<=y.ino/\y.ino<8):WF (a.setEnt d s y):=by
 refine⟨fun d' s'=>?_,fun k p=>?_⟩
 ·rw[kG]
  split
  ·exact hy
  ·exact hw.1 d' s'
 ·rw[rh];exact hw.2 k p
theorem tL(hw:WF a){y:Dat}:WF (a.setDat n y):=hw
theorem lm(p:Nat): -1<=Ino.none.prt p/\Ino.none.prt p<9:=by
 by_cases hp:p<2
 ·simp[Ino.prt,Ino.none,hp]
 ·simp[Ino.prt,hp]
theorem vr(i:Ino)(l:Int)(p:Nat):Ino.prt ⟨i.live,i.stamp,l,i.part⟩ p=i.prt p:=rfl
theorem DI(st:Int)(p:Nat):(km st).prt p=Ino.none.prt p:=rfl
theorem rN(hw:WF a){d s:Nat}{name:Str}(n8:n<8):WF (addName a d s name n):=
 iY (tK hw ⟨by show 0<=(n:Int);omega,by show(n:Int)<8;omega⟩) fun p=>by rw[vr];exact hw.2 n p
theorem qe(hw:WF a){d s:Nat}:WF (dropName a d s):=by
 have h0:WF (a.setEnt d s .zero):=tK hw ⟨by decide,by decide⟩
 unfold dropName
 dsimp only
 split
 ·exact iY h0 lm
 ·exact iY h0 fun p=>by rw[vr];exact hw.2 _ p
theorem o6{b:Img}(hw:WF a)(n8:n<8):WF (enterA a b d s n):=by
 unfold enterA
 split
 ·exact rN hw n8
 ·exact hw
variable{F:Fl}
theorem Ct(hw:WF F.now):WF (gB F d s).now:=by
 unfold gB
 split
 ·rename_i hm
  rcases jH F.now F.disk with e|⟨n,n8,e,_⟩
  ·unfold iG at hm
   split at hm
   ·omega
   ·rw[if_pos (.inl (by omega))]at hm;omega
  ·rw[e]
   exact rN (iY hw fun p=>by rw[DI];exact lm p) (by simpa using n8)
 ·exact hw
theorem Ef{b:Img}(hw:WF a){p:Nat}{t:Str}:WF (mG a b n p t):=by
 unfold mG
 split
 ·split
  ·exact hw
  ·rcases jI a b with e|⟨k,k9,e,_⟩
   ·omega
   ·refine tL (iY hw fun q=>?_)
    rw[mH,e]
    split
    ·omega
    ·exact hw.2 n q
 ·exact tL hw
theorem Hc(hw:WF F.now)(x:SStep):WF (doF F x).now:=by
 have n8:∀d s,(F.now.ent d s).ino.toNat<8:=fun d s=>by have:=hw.1 d s;omega
 unfold doF
 split
 ·exact hw
 split
 ·exact Ct hw
 dsimp only
 split
 ·exact o6 hw (n8 _ _)
 split
 ·exact qe (o6 hw (n8 _ _))
 split
 ·exact qe hw
 split
 ·exact Ef hw
 ·refine iY hw fun q=>?_
  rw[mH]
  split
  ·omega
  ·exact hw.2 _ q
section
variable{cx:Cx}{h:HP}{f c:Nat}{a b:Img}{st:Int}
theorem vT{s:Int}(hl:HL cx)(hF:h.look (.obj f)=some ⟨tFiles,encF c st⟩)(hC:h.look (.obj c)=some ⟨tCache,encC a b⟩)(hne:¬f=c)
  (d0:0<=d) (d3:d<3) (s0:0<=s) (s4:s<4) (i0:0<=(a.ent d.toNat s.toNat).ino) (i8:(a.ent d.toNat s.toNat).ino<8):
  Ok dH cx Fn.b5 (St.enter [.ptr (.obj f) [] tFiles,.int .i64 d,.int .i64 s] h) fun v h'=>v=.tup .unit/\h'=h.ob c tCache (encC (dropName a d.toNat s.toNat) b):=by
 have n8:(a.ent d.toNat s.toNat).ino.toNat<8:=by omega
 rw[aE]
 simp(disch:=omega)only[go_sem,hF,hC,cN (hl _),b0 hne,n8]
 by_cases c1:IntKind.i64.wrap ((a.ino (a.ent d.toNat s.toNat).ino.toNat).links-1)=0
 ·simp(disch:=omega)only[go_sem,hF,hC,cN (hl _),b0 hne,n8,c1]
  refine am rfl ⟨rfl,rfl⟩ (by simp only[go_sem];exact upE (up (kQ))) ?_
  simp(disch:=omega)only[go_sem,hF,hC,cN (hl _),b0 hne,n8,c1]
  simp[dropName,c1,dX]
 ·simp(disch:=omega)only[go_sem,hF,hC,cN (hl _),b0 hne,n8,c1]
  simp[dropName,c1]
theorem DM(hl:HL cx)(hF:h.look (.obj f)=some ⟨tFiles,encF c F.stamp⟩)(hC:h.look (.obj c)=some ⟨tCache,encC F.now F.disk⟩)(hne:¬f=c):
  Ok dH cx Fn.bh (St.enter [.ptr (.obj f) [] tFiles,.int .i64 d,.str s] h) fun v h'=>v=.int .i64 (iG F d s)/\h'=(h.ob f tFiles (encF c (gB F d s).stamp)).ob c tCache (encC (gB F d s).now F.disk):=by
 rw[aE]
 have same:(h.ob f tFiles (encF c F.stamp)).ob c tCache (encC F.now F.disk)=h:=by rw[eJ hF,eJ hC]
 have hne':¬c=f:=fun e=>hne e.symm
 simp(disch:=omega)only[go_sem,hF,hC]
 refine am rfl ⟨rfl,rfl⟩ (by simp only[go_sem];exact mT (a:=F.now) (b:=F.disk) (by simp only[go_sem,hC])) ?_
 simp(disch:=omega)only[go_sem]
 by_cases c1:0<=cr F.now d s
 ·simp(disch:=omega)only[go_sem,c1]
  simp[iG,gB,c1,same]
 simp(disch:=omega)only[go_sem,c1,hF,hC]
 refine am rfl ⟨rfl,rfl⟩ (by simp only[go_sem];exact GV (a:=F.now) (b:=F.disk) (by simp only[go_sem,hC])) ?_
 simp(disch:=omega)only[go_sem]
 rcases jH F.now F.disk with e|⟨n,n8,e,_⟩
 ·simp(disch:=omega)only[go_sem,e]
  simp[iG,gB,c1,e,same]
 have n0:¬(n:Int)<0:=by omega
 simp(disch:=omega)only[go_sem,e,n0]
 refine am rfl ⟨rfl,rfl⟩ (by simp only[go_sem];exact yB (a:=F.now) (b:=F.disk) (c:=c) (st:=F.stamp) (by simp only[go_sem,hF]) (by simp only[go_sem,hC])) ?_
 simp(disch:=omega)only[go_sem]
 rcases iZ F.now F.disk d s with e2|⟨k,k4,e2,d0,d3,_⟩
 ·simp(disch:=omega)only[go_sem,e2]
  simp[iG,gB,c1,e,e2,same]
 have k0:¬(k:Int)<0:=by omega
 simp(disch:=omega)only[go_sem,e2,k0,hF,hC,cN (hl _),b0 hne,b0 hne']
 refine am rfl ⟨rfl,rfl⟩ (by simp only[go_sem];exact upE (up (kQ))) ?_
 simp(disch:=omega)only[go_sem,hF,hC,cN (hl _),b0 hne,b0 hne',n8]
 rw[dX,dX]
 have eC:eG F.now F.disk d s=0:=by simp[eG,c1,e2,k0]
 have mC:iG F d s=0:=by simp[iG,c1,e,e2,n0,k0]
 have mF:gB F d s=⟨addName (F.now.setIno n (km (IntKind.i64.wrap (F.stamp+1)))) d.toNat k s n,F.disk,IntKind.i64.wrap (F.stamp+1)⟩:=by
  simp[gB,mC,e,e2]
 have eA:enterA (F.now.setIno n (km (IntKind.i64.wrap (F.stamp+1)))) F.disk d s n=(gB F d s).now:=by
  rw[mF,enterA,if_pos (by rw[mv];exact eC),vp,e2];rfl
 have key:=fun(cy:Cx) (hy:∀n,cy.prot.lets (.obj n)=true)=>wo (cx:=cy) (f:=f) (c:=c) (h:=((h.ob f tFiles (encF c (IntKind.i64.wrap (F.stamp+1)))).ob c tCache (encC (F.now.setIno n (km (IntKind.i64.wrap (F.stamp+1)))) F.disk)).push cx.lvl []) (a:=F.now.setIno n (km (IntKind.i64.wrap (F.stamp+1)))) (b:=F.disk) (st:=IntKind.i64.wrap (F.stamp+1)) (d:=d) (s:=s) (n:=n) hy (by simp only[go_sem,b0 hne]) (by simp only[go_sem,]) hne n8
 simp only[eA,mv,eC,go_sem]at key
 have mS:(gB F d s).stamp=IntKind.i64.wrap (F.stamp+1):=by rw[mF]
 rw[mC,mS]
 refine bK (v:=.int .i64 0) ((h.ob f tFiles (encF c (IntKind.i64.wrap (F.stamp+1)))).ob c tCache (encC (gB F d s).now F.disk)) rfl ⟨rfl,rfl⟩ rfl (by simp only[go_sem];exact key _ hl) ?_
 simp(disch:=omega)only[go_sem]
end
section
variable{cx:Cx}{h:HP}{f c:Nat}{a b:Img}{st:Int}
theorem FQ{p:Int}{t:Str}(hl:HL cx)(hF:h.look (.obj f)=some ⟨tFiles,encF c st⟩)(hC:h.look (.obj c)=some ⟨tCache,encC a b⟩)(hne:¬f=c)
  (hw:WF a) (n8:n<8) (p0:0<=p) (p2:p<2):
  Ok dH cx Fn.bI (St.enter [.ptr (.obj f) [] tFiles,.int .i64 n,.int .i64 p,.str t] h) fun v h'=>v=.int .i64 (qh a b n p.toNat)/\h'=h.ob c tCache (encC (mG a b n p.toNat t) b):=by
 have p2':p.toNat<2:=by omega
 have q9:=(hw.2 n p.toNat).2
 rw[aE]
 simp(disch:=omega)only[go_sem,hF,hC,cN (hl _),b0 hne]
 by_cases c1:(a.ino n).prt p.toNat<0
 ·simp(disch:=omega)only[go_sem,hF,hC,cN (hl _),b0 hne,c1]
  refine am rfl ⟨rfl,rfl⟩ (by simp only[go_sem];exact Le (a:=a) (b:=b) (by simp only[go_sem,hC])) ?_
  simp(disch:=omega)only[go_sem]
  rcases jI a b with e|⟨k,k9,e,_⟩
  ·simp(disch:=omega)only[go_sem,e]
   simp[qh,mG,c1,e,eJ hC]
  ·have k0:¬(k:Int)<0:=by omega
   simp(disch:=omega)only[go_sem,e,k0,hF,hC,cN (hl _),b0 hne,n8,p2']
   simp[qh,mG,c1,e,k0]
 ·simp(disch:=omega)only[go_sem,hF,hC,cN (hl _),b0 hne,c1]
  simp[qh,mG,c1]
theorem LQ(hl:HL cx)(hF:h.look (.obj f)=some ⟨tFiles,encF c F.stamp⟩)(hC:h.look (.obj c)=some ⟨tCache,encC F.now F.disk⟩)(hne:¬f=c)
  (hw:WF F.now) (h1:x.name.size<=9223372036854775807) (h2:x.to.size<=9223372036854775807) (h3:x.text.size<=9223372036854775807):
  Ok dH cx Fn.az (St.enter [.ptr (.obj f) [] tFiles,x.enc] h) fun v h'=>v=.int .i64 (doC F x)/\h'=(h.ob f tFiles (encF c (doF F x).stamp)).ob c tCache (encC (doF F x).now F.disk):=by
 rw[aE]
 have same:(h.ob f tFiles (encF c F.stamp)).ob c tCache (encC F.now F.disk)=h:=by rw[eJ hF,eJ hC]
 have sameF:∀v,(h.ob f tFiles (encF c F.stamp)).ob c tCache v=h.ob c tCache v:=fun v=>by rw[eJ hF]
 have hne':¬c=f:=fun e=>hne e.symm
 simp(disch:=omega)only[go_sem]
 refine am rfl ⟨rfl,rfl⟩ (by simp only[go_sem];exact tT h1 h2 h3) ?_
 simp(disch:=omega)only[go_sem]
 by_cases c0:co x=0
 rotate_left
 ·simp(disch:=omega)only[go_sem,c0]
  simp[doC,doF,c0,same]
 obtain⟨⟨k1,k6⟩,⟨d0,d3⟩,hn,hto,hp,htx⟩:=e8 c0
 simp(disch:=omega)only[go_sem,c0]
 by_cases c1:x.kind=1
 ·simp(disch:=omega)only[go_sem,c1]
  refine bK (v:=.int .i64 (iG F x.dir x.name)) ((h.ob f tFiles (encF c (gB F x.dir x.name).stamp)).ob c tCache (encC (gB F x.dir x.name).now F.disk)) rfl ⟨rfl,rfl⟩ rfl (by simp only[go_sem];exact DM hl hF hC hne) ?_
  simp(disch:=omega)only[go_sem]
  by_cases e:iG F x.dir x.name=0<;>simp[doC,doF,c0,c1,e,gB]
 simp(disch:=omega)only[go_sem,c1,hF,hC]
 refine am rfl ⟨rfl,rfl⟩ (by simp only[go_sem];exact mT (a:=F.now) (b:=F.disk) (by simp only[go_sem,hC])) ?_
 simp(disch:=omega)only[go_sem]
 rcases dW F.now x.dir x.name with e|⟨s,s4,e,_⟩
 ·simp(disch:=omega)only[go_sem,e]
  simp[doC,doF,c0,c1,e,same]
 have s0:¬(s:Int)<0:=by omega
 have i0:=(hw.1 x.dir.toNat s).1
 have i8:=(hw.1 x.dir.toNat s).2
 have n8:(F.now.ent x.dir.toNat s).ino.toNat<8:=by omega
 have ni:(((F.now.ent x.dir.toNat s).ino.toNat:Nat):Int)=(F.now.ent x.dir.toNat s).ino:=by omega
 simp(disch:=omega)only[go_sem,e,s0,hF,hC]
 have enter:=fun(cy:Cx) (hy:∀n,cy.prot.lets (.obj n)=true) (o:Own)=>wo (cx:=cy) (h:=h.push cx.lvl o) (f:=f) (c:=c) (a:=F.now) (b:=F.disk) (st:=F.stamp) (d:=x.toDir) (s:=x.to) (n:=(F.now.ent x.dir.toNat s).ino.toNat) hy (by simp only[go_sem,hF]) (by simp only[go_sem,hC]) hne n8
 simp only[ni,go_sem]at enter
 by_cases c2:x.kind=2
 ·simp(disch:=omega)only[go_sem,c2]
  refine bK (v:=.int .i64 (eG F.now F.disk x.toDir x.to)) (h.ob c tCache (encC (enterA F.now F.disk x.toDir x.to (F.now.ent x.dir.toNat s).ino.toNat) F.disk)) rfl ⟨rfl,rfl⟩ rfl (by simp only[go_sem];exact enter _ (by exact hl) _) ?_
  simp(disch:=omega)only[go_sem]
  by_cases e2:eG F.now F.disk x.toDir x.to=0<;>simp[doC,doF,c0,c1,c2,e,s0,e2,enterA,sameF]
 by_cases c4:x.kind=4
 ·simp(disch:=omega)only[go_sem,c2,c4]
  refine bK (v:=.int .i64 (eG F.now F.disk x.toDir x.to)) (h.ob c tCache (encC (enterA F.now F.disk x.toDir x.to (F.now.ent x.dir.toNat s).ino.toNat) F.disk)) rfl ⟨rfl,rfl⟩ rfl (by simp only[go_sem];exact enter _ (by exact hl) _) ?_
  simp(disch:=omega)only[go_sem]
  by_cases e2:eG F.now F.disk x.toDir x.to=0
  ·simp(disch:=omega)only[go_sem,e2]
   have hw2:=o6 (b:=F.disk) hw (d:=x.toDir) (s:=x.to) n8
   have leave:=fun(cy:Cx) (hy:∀n,cy.prot.lets (.obj n)=true) (o:Own)=>vT (cx:=cy) (h:=(h.ob c tCache (encC (enterA F.now F.disk x.toDir x.to (F.now.ent x.dir.toNat s).ino.toNat) F.disk)).push cx.lvl o) (f:=f) (c:=c) (a:=enterA F.now F.disk x.toDir x.to (F.now.ent x.dir.toNat s).ino.toNat) (b:=F.disk) (st:=F.stamp) (d:=x.dir) (s:=s) hy (by simp only[go_sem,hF,b0 hne]) (by simp only[go_sem,]) hne d0 d3 (Int.natCast_nonneg s) (by omega) (hw2.1 _ _).1 (hw2.1 _ _).2
   simp only[go_sem]at leave
   refine bK (v:=.tup .unit) (h.ob c tCache (encC (dropName (enterA F.now F.disk x.toDir x.to (F.now.ent x.dir.toNat s).ino.toNat) x.dir.toNat s) F.disk)) rfl ⟨rfl,rfl⟩ rfl (by simp only[go_sem];exact leave _ (by exact hl) _) ?_
   simp(disch:=omega)only[go_sem]
   simp[doC,doF,c0,c1,c2,c4,e,s0,e2,sameF]
  ·simp(disch:=omega)only[go_sem,e2]
   simp[doC,doF,c0,c1,c2,c4,e,s0,e2,enterA,same,eJ hC]
 by_cases c3:x.kind=3
 ·simp(disch:=omega)only[go_sem,c2,c4,c3]
  refine bK (v:=.tup .unit) (h.ob c tCache (encC (dropName F.now x.dir.toNat s) F.disk)) rfl ⟨rfl,rfl⟩ rfl (by simp only[go_sem];exact vT (a:=F.now) (b:=F.disk) (st:=F.stamp) hl (by simp only[go_sem,hF]) (by simp only[go_sem,hC]) hne d0 d3 (Int.natCast_nonneg s) (by omega) (by simpa using i0) (by simpa using i8)) ?_
  simp(disch:=omega)only[go_sem]
  simp[doC,doF,c0,c1,c2,c3,c4,e,s0,sameF]
 by_cases c5:x.kind=5
 ·simp(disch:=omega)only[go_sem,c2,c4,c3,c5]
  have put:=fun(cy:Cx) (hy:∀n,cy.prot.lets (.obj n)=true) (o:Own)=>FQ (cx:=cy) (h:=h.push cx.lvl o) (f:=f) (c:=c) (a:=F.now) (b:=F.disk) (st:=F.stamp) (p:=x.p) (t:=x.text) (n:=(F.now.ent x.dir.toNat s).ino.toNat) hy (by simp only[go_sem,hF]) (by simp only[go_sem,hC]) hne hw n8 (hp (.inl c5)).1 (hp (.inl c5)).2
  simp only[ni,go_sem]at put
  refine bK (v:=.int .i64 (qh F.now F.disk (F.now.ent x.dir.toNat s).ino.toNat x.p.toNat)) (h.ob c tCache (encC (mG F.now F.disk (F.now.ent x.dir.toNat s).ino.toNat x.p.toNat x.text) F.disk)) rfl ⟨rfl,rfl⟩ rfl (by simp only[go_sem];exact put _ (by exact hl) _) ?_
  simp(disch:=omega)only[go_sem]
  by_cases e2:qh F.now F.disk (F.now.ent x.dir.toNat s).ino.toNat x.p.toNat=0
  ·simp[doC,doF,c0,c1,c2,c3,c4,c5,e,s0,e2,sameF]
  ·have:mG F.now F.disk (F.now.ent x.dir.toNat s).ino.toNat x.p.toNat x.text=F.now:=by
    have e3:(F.now.ino (F.now.ent x.dir.toNat s).ino.toNat).prt x.p.toNat<0/\gp F.now F.disk<0:=by
     simp only[qh]at e2;split at e2
     ·assumption
     ·exact absurd rfl e2
    simp[mG,e3.1,e3.2]
   simp[doC,doF,c0,c1,c2,c3,c4,c5,e,s0,e2,this,same,eJ hC]
 have c6:x.kind=6:=by omega
 have hp0:=(hp (.inr c6)).1
 have hp2:=(hp (.inr c6)).2
 simp(disch:=omega)only[go_sem,c2,c4,c3,c5,c6,hF,hC,cN (hl _),b0 hne]
 simp[doC,doF,c0,c1,c2,c3,c4,c5,e,s0,sameF]
def readC(a:Img)(d:Int)(s:Str)(p:Int):Int:=
 if co ⟨6,d,0,p,s,⟨#[]⟩,⟨#[]⟩⟩≠0 then co ⟨6,d,0,p,s,⟨#[]⟩,⟨#[]⟩⟩else if cr a d s<0 then 5 else 0
def sE(a:Img)(d:Int)(s:Str)(p:Int):Int:=(a.ino (a.ent d.toNat (cr a d s).toNat).ino.toNat).prt p.toNat
def readB(a:Img)(d:Int)(s:Str)(p:Int):Bool:=decide (readC a d s p=0)&& !decide (sE a d s p<0)
def readT(a:Img)(d:Int)(s:Str)(p:Int):Str:=if readB a d s p=true then(a.dat (sE a d s p).toNat).text else⟨#[]⟩
def sameB(a:Img)(d:Int)(s:Str)(e:Int)(t:Str):Bool:=decide (0<=cr a d s)&&decide (0<=cr a e t)&&
 decide ((a.ent d.toNat (cr a d s).toNat).ino=(a.ent e.toNat (cr a e t).toNat).ino)
def sureB(a b:Img)(d:Int)(s:Str):Bool:=decide (0<=cr a d s)&&decide (b.ent d.toNat (cr a d s).toNat=a.ent d.toNat (cr a d s).toNat)
def mR(t:Str)(b:Bool)(c:Int):AV:=.tup (.cons (.str t) (.cons (.bool b) (.cons (.int .i64 c) .unit)))
@[go_sem] theorem Gs(k d p:Int)(s:Str):fill aD aD.zero [(0,.int .i64 k),(1,.int .i64 d),(4,.str s),(3,.int .i64 p)]=some (SStep.enc ⟨k,d,0,p,s,⟨#[]⟩,⟨#[]⟩⟩):=rfl
@[go_sem] theorem M3(t:Str)(b:Bool)(c:Int):some (AV.tup (.cons (.str t) (.cons (.bool b) (.cons (.int .i64 c) .unit))))=some (mR t b c):=rfl
theorem Eo{p:Int}(hF:h.look (.obj f)=some ⟨tFiles,encF c st⟩)(hC:h.look (.obj c)=some ⟨tCache,encC a b⟩)(hw:WF a)(hs:s.size<=9223372036854775807):
  Ok dH cx Fn.aU (St.enter [.ptr (.obj f) [] tFiles,.int .i64 d,.str s,.int .i64 p] h) fun v h'=>v=mR (readT a d s p) (readB a d s p) (readC a d s p)/\h'=h:=by
 rw[aE]
 simp(disch:=omega)only[go_sem]
 refine am rfl ⟨rfl,rfl⟩ (by simp only[go_sem];exact tT (x:=⟨6,d,0,p,s,⟨#[]⟩,⟨#[]⟩⟩) hs (Nat.zero_le _) (Nat.zero_le _)) ?_
 simp(disch:=omega)only[go_sem]
 by_cases c0:co ⟨6,d,0,p,s,⟨#[]⟩,⟨#[]⟩⟩=0
 rotate_left
 ·simp(disch:=omega)only[go_sem,c0]
  simp[readC,readB,readT,c0,mR]
 obtain⟨_,⟨d0,d3⟩,_,_,hp,_⟩:=e8 c0
 obtain⟨p0,p2⟩:=hp (.inr rfl)
 simp only at d0 d3 p0 p2
 simp(disch:=omega)only[go_sem,c0,hF,hC]
 refine am rfl ⟨rfl,rfl⟩ (by simp only[go_sem];exact mT (a:=a) (b:=b) (by simp only[go_sem,hC])) ?_
 simp(disch:=omega)only[go_sem]
 rcases dW a d s with e|⟨k,k4,e,_⟩
 ·simp(disch:=omega)only[go_sem,e]
  simp[readC,readB,readT,c0,e,mR]
 have k0:¬(k:Int)<0:=by omega
 have i0:=(hw.1 d.toNat k).1
 have i8:=(hw.1 d.toNat k).2
 have q9:=(hw.2 (a.ent d.toNat k).ino.toNat p.toNat).2
 simp(disch:=omega)only[go_sem,e,k0,hF,hC]
 by_cases c1:(a.ino (a.ent d.toNat k).ino.toNat).prt p.toNat<0
 ·simp(disch:=omega)only[go_sem,c1]
  simp[readC,readB,readT,sE,c0,e,k0,c1,mR]
 ·simp(disch:=omega)only[go_sem,c1,hF,hC]
  simp[readC,readB,readT,sE,c0,e,k0,c1,mR]
theorem Em{e:Int}{t:Str}(hF:h.look (.obj f)=some ⟨tFiles,encF c st⟩)(hC:h.look (.obj c)=some ⟨tCache,encC a b⟩):
  Ok dH cx Fn.cZ (St.enter [.ptr (.obj f) [] tFiles,.int .i64 d,.str s,.int .i64 e,.str t] h) fun v h'=>v=.bool (sameB a d s e t)/\h'=h:=by
 rw[aE]
 simp(disch:=omega)only[go_sem,hF,hC]
 refine am rfl ⟨rfl,rfl⟩ (by simp only[go_sem];exact mT (a:=a) (b:=b) (by simp only[go_sem,hC])) ?_
 simp(disch:=omega)only[go_sem,hF,hC]
 refine am rfl ⟨rfl,rfl⟩ (by simp only[go_sem];exact mT (a:=a) (b:=b) (by simp only[go_sem,hC])) ?_
 simp(disch:=omega)only[go_sem,hF,hC]
 rcases dW a d s with e1|⟨k,k4,e1,d0,d3,_⟩
 ·simp(disch:=omega)only[go_sem,e1]
  simp[sameB,e1]
 rcases dW a e t with e2|⟨j,j4,e2,e0,e3,_⟩
 ·simp(disch:=omega)only[go_sem,e1,e2]
  simp[sameB,e1,e2]
 simp(disch:=omega)only[go_sem,e1,e2,hF,hC]
 simp[sameB,e1,e2]
theorem Ei(hF:h.look (.obj f)=some ⟨tFiles,encF c st⟩)(hC:h.look (.obj c)=some ⟨tCache,encC a b⟩):
  Ok dH cx Fn.cG (St.enter [.ptr (.obj f) [] tFiles,.int .i64 d,.str s] h) fun v h'=>v=.bool (sureB a b d s)/\h'=h:=by
 rw[aE]
 simp(disch:=omega)only[go_sem,hF,hC]
 refine am rfl ⟨rfl,rfl⟩ (by simp only[go_sem];exact mT (a:=a) (b:=b) (by simp only[go_sem,hC])) ?_
 simp(disch:=omega)only[go_sem,hF,hC]
 refine am rfl ⟨rfl,rfl⟩ (by simp only[go_sem];exact yH (a:=a) (b:=b) (by simp only[go_sem,hC])) ?_
 simp(disch:=omega)only[go_sem,hF,hC]
 rcases dW a d s with e1|⟨k,k4,e1,d0,d3,_⟩
 ·simp(disch:=omega)only[go_sem,e1]
  simp[sureB,e1]
 simp(disch:=omega)only[go_sem,e1,hF,hC]
 simp[sureB,e1]
end
end Go.Mini
