/- A part of the proof: what Dd computes, step by step. -/
import Derived.Test.YtpkndgkaecamlaaGreatDoorDdPg
import Derived.Lib.IndexLaws
import Derived.Lib.CutLaws
import Derived.Lib.CountLaws
import Derived.ChangeSame
import Derived.Carry
import Derived.OpenShut
import Derived.ProofKit
import Derived.WalkKit
import Derived.Deep.Slices
import Derived.Deep.Fields1
import Derived.Deep.MidRow

set_option linter.unusedVariables false
set_option linter.unusedSimpArgs false
set_option maxHeartbeats 16000000
set_option maxRecDepth 100000
set_option linter.unusedSectionVars false
set_option linter.unnecessarySimpa false
namespace Go.Mini
namespace Fn
abbrev dB.r0:=[pC 4 (qS #[])]
abbrev dB.r1:=[oM 6 0,oK 7 6,oE 8 (.cons tS (.cons tP .unit)) 0 tS 7,oU (.store tS [] (.s 8) (qS #[]))]
abbrev dB.r2:=[oC 5 0]
abbrev dB.r3:=[oM 9 5,oM 10 1,oY 11 10,oB 12 .lss 9 11]
abbrev dB.r4:=[oM 13 5,oI 14 .add 13 1,oM 5 14]
abbrev dB.r5:=[oM 15 0,oM 16 1,oM 17 5,oX 18 tS 16 17,oL 19 tS 18,oA 20 434 [(.s 15),(.s 19)]]
abbrev dB.r6:=[oM 21 0,oK 22 21,oE 23 (.cons tS (.cons tP .unit)) 0 tS 22,oL 24 tS 23,oM 4 24]
abbrev dB.body:=gS (gR dB.r0 [4]) (gS (gR dB.r1 [6,7,8]) (gS (gS (gR dB.r2 []) (.block 0 (.loop [0,1,5] [] (gS (gS (gR dB.r3 [9,10,11]) (gC 12 .skip (.exit 0))) (gS (.block 1 (gR dB.r5 [15,16,17,18,19,20])) (gR dB.r4 [13,14])))))) (gS (gR dB.r6 [0,21,22,23,24]) .ret)))
abbrev dB:=gF 2 [.tmp 4] dB.body
abbrev bE.r0:=[pN 2 (.cons tI (.cons tI .unit))]
abbrev bE.r1:=[oM 5 0,oY 6 5,oI 7 .gtr 6 150]
abbrev bE.r2:=[oA 8 433 [(qI 14),(qI (-1))],oS (.cons tI (.cons tI .unit)) 2 8]
abbrev bE.r3:=[oC 3 0]
abbrev bE.r4:=[oM 9 3,oM 10 0,oY 11 10,oB 12 .lss 9 11]
abbrev bE.r5:=[oM 13 3,oI 14 .add 13 1,oM 3 14]
abbrev bE.r6:=[oC 4 0]
abbrev bE.r7:=[oM 15 4,oM 16 0,oM 17 3,oX 18 tS 16 17,oL 19 tS 18,oN 20 (.len true (.s 19)),oB 21 .lss 15 20]
abbrev bE.r8:=[oM 22 4,oI 23 .add 22 1,oM 4 23]
abbrev bE.r9:=[oM 24 0,oM 25 3,oX 26 tS 24 25,oL 27 tS 26,oM 28 4,oN 29 (.stridx (.s 27) (.s 28)),oN 30 (.bin .eql (.s 29) (.c (.int .u8 10)))]
abbrev bE.r10:=[oM 31 3,oA 32 433 [(qI 15),(.s 31)],oS (.cons tI (.cons tI .unit)) 2 32]
abbrev bE.r11:=[oN 33 (.build (.cons tI (.cons tI .unit)) []),oS (.cons tI (.cons tI .unit)) 2 33]
abbrev bE.body:=gS (gR bE.r0 []) (gS (gS (gR bE.r1 [5,6]) (gC 7 (gS (gR bE.r2 [8]) .ret) .skip)) (gS (gS (gR bE.r3 []) (.block 0 (.loop [0,2,3] [2] (gS (gS (gR bE.r4 [9,10,11]) (gC 12 .skip (.exit 0))) (gS (.block 1 (gS (gR bE.r6 []) (.block 2 (.loop [0,2,3,4] [2] (gS (gS (gR bE.r7 [15,16,17,18,19,20]) (gC 21 .skip (.exit 2))) (gS (.block 3 (gS (gR bE.r9 [24,25,26,27,28,29]) (gC 30 (gS (gR bE.r10 [3,31,32]) .ret) .skip))) (gR bE.r8 [22,23]))))))) (gR bE.r5 [13,14])))))) (gS (gR bE.r11 [33]) .ret)))
abbrev bE:=gF 1 [.cell 2 (.cons tI (.cons tI .unit))] bE.body
abbrev gz.r0:=[pC 0 (.c .nilp)]
abbrev gz.r1:=[oA 1 279 [],oN 2 (.build (.cons tS (.cons tP .unit)) [(1,(.s 1))]),oN 3 (.box true (.cons tS (.cons tP .unit)) (.s 2)),oM 0 3]
abbrev gz.body:=gS (gR gz.r0 [0]) (gS (gR gz.r1 [1,2,3]) .ret)
abbrev gz:=gF 0 [.tmp 0] gz.body
abbrev r_F.r0:=[pN 4 (.cons tI (.cons tI .unit))]
abbrev r_F.r1:=[oM 5 0,oM 6 1,oN 7 (.build (.cons tI (.cons tI .unit)) [(0,(.s 5)),(1,(.s 6))]),oS (.cons tI (.cons tI .unit)) 4 7]
abbrev r_F.body:=gS (gR r_F.r0 []) (gS (gR r_F.r1 [0,1,5,6,7]) .ret)
abbrev r_F:=gF 2 [.cell 4 (.cons tI (.cons tI .unit))] r_F.body
abbrev ae.r0:=[oN 2 (.box false tP (.s 0))]
abbrev ae.r1:=[oM 21 1,oA 22 440 [(.s 21)],pN 4 tSl,oS tSl 4 22]
abbrev ae.r2:=[oL 23 tSl 4,oY 24 23,oI 25 .eql 24 0]
abbrev ae.r3:=[oN 26 (.mkfn 439 [(.s 4)]),oM 5 26]
abbrev ae.r4:=[oN 27 (.mkfn 438 [(.s 2)]),oM 6 27]
abbrev ae.r5:=[oL 28 tP 2,oN 29 (.call false [] 437 [(.s 28),(qS #[119,104,97,116])])]
abbrev ae.r6:=[oM 31 5,oN 32 (.callv false [] (.s 31) [(qS #[109,97,107,101]),(qI 2)]),oM 30 32]
abbrev ae.r7:=[oL 33 tP 2,oL 34 tSl 4,pX 35 tS 34 1,oL 36 tS 35,pQ 37 435 36,oL 38 tSl 4,pX 39 tS 38 2,oL 40 tS 39,oN 41 (.build aD [(0,(qI 1)),(1,(.s 37)),(4,(.s 40))]),oA 42 436 [(.s 33),(.s 41)]]
abbrev ae.r8:=[oM 44 5,oN 45 (.callv false [] (.s 44) [(qS #[117,110,108,105,110,107]),(qI 2)]),oM 43 45]
abbrev ae.r9:=[oL 46 tP 2,oL 47 tSl 4,pX 48 tS 47 1,oL 49 tS 48,pQ 50 435 49,oL 51 tSl 4,pX 52 tS 51 2,oL 53 tS 52,oN 54 (.build aD [(0,(qI 3)),(1,(.s 50)),(4,(.s 53))]),oA 55 436 [(.s 46),(.s 54)]]
abbrev ae.r10:=[oM 57 5,oN 58 (.callv false [] (.s 57) [(qS #[108,105,110,107]),(qI 4)]),oM 56 58]
abbrev ae.r11:=[oL 59 tP 2,oL 60 tSl 4,pX 61 tS 60 1,oL 62 tS 61,pQ 63 435 62,oL 64 tSl 4,pX 65 tS 64 2,oL 66 tS 65,oL 67 tSl 4,pX 68 tS 67 3,oL 69 tS 68,pQ 70 435 69,oL 71 tSl 4,pX 72 tS 71 4,oL 73 tS 72,oN 74 (.build aD [(0,(qI 2)),(1,(.s 63)),(4,(.s 66)),(2,(.s 70)),(5,(.s 73))]),oA 75 436 [(.s 59),(.s 74)]]
abbrev ae.r12:=[oM 77 5,oN 78 (.callv false [] (.s 77) [(qS #[114,101,110,97,109,101]),(qI 4)]),oM 76 78]
abbrev ae.r13:=[oL 79 tP 2,oL 80 tSl 4,pX 81 tS 80 1,oL 82 tS 81,pQ 83 435 82,oL 84 tSl 4,pX 85 tS 84 2,oL 86 tS 85,oL 87 tSl 4,pX 88 tS 87 3,oL 89 tS 88,pQ 90 435 89,oL 91 tSl 4,pX 92 tS 91 4,oL 93 tS 92,oN 94 (.build aD [(0,(qI 4)),(1,(.s 83)),(4,(.s 86)),(2,(.s 90)),(5,(.s 93))]),oA 95 436 [(.s 79),(.s 94)]]
abbrev ae.r14:=[oM 97 5,oN 98 (.callv false [] (.s 97) [(qS #[112,117,116]),(qI 4)]),oM 96 98]
abbrev ae.r15:=[oL 100 tSl 4,pX 101 tS 100 4,oL 102 tS 101,oA 103 344 [(.s 102)],oM 99 103,oZ 104 99 0,oZ 105 99 1,oM 7 104,oM 8 105]
abbrev ae.r16:=[oM 106 8,pU 107 106]
abbrev ae.r17:=[oL 108 tP 2,oN 109 (.call false [] 437 [(.s 108),(qS #[119,104,97,116])])]
abbrev ae.r18:=[oL 110 tP 2,oL 111 tSl 4,pX 112 tS 111 1,oL 113 tS 112,pQ 114 435 113,oL 115 tSl 4,pX 116 tS 115 2,oL 117 tS 116,oL 118 tSl 4,pX 119 tS 118 3,oL 120 tS 119,pQ 121 435 120,oM 122 7,oN 123 (.build aD [(0,(qI 5)),(1,(.s 114)),(4,(.s 117)),(3,(.s 121)),(6,(.s 122))]),oA 124 436 [(.s 110),(.s 123)]]
abbrev ae.r19:=[oM 126 5,oN 127 (.callv false [] (.s 126) [(qS #[99,117,116]),(qI 3)]),oM 125 127]
abbrev ae.r20:=[oL 128 tP 2,oL 129 tSl 4,pX 130 tS 129 1,oL 131 tS 130,pQ 132 435 131,oL 133 tSl 4,pX 134 tS 133 2,oL 135 tS 134,oL 136 tSl 4,pX 137 tS 136 3,oL 138 tS 137,pQ 139 435 138,oN 140 (.build aD [(0,(qI 6)),(1,(.s 132)),(4,(.s 135)),(3,(.s 139))]),oA 141 436 [(.s 128),(.s 140)]]
abbrev ae.r21:=[oM 143 5,oN 144 (.callv false [] (.s 143) [(qS #[119,114,105,116,101]),(qI 1)]),oM 142 144]
abbrev ae.r22:=[oL 145 tP 2,oL 146 tSl 4,pX 147 tS 146 1,oL 148 tS 147,pQ 149 435 148,oN 150 (.build aD [(0,(qI 7)),(3,(.s 149))]),oA 151 436 [(.s 145),(.s 150)]]
abbrev ae.r23:=[oM 153 5,oN 154 (.callv false [] (.s 153) [(qS #[115,121,110,99]),(qI 0)]),oM 152 154]
abbrev ae.r24:=[oL 155 tP 2,oN 156 (.build aD [(0,(qI 8))]),oA 157 436 [(.s 155),(.s 156)]]
abbrev ae.r25:=[oM 159 5,oN 160 (.callv false [] (.s 159) [(qS #[99,114,97,115,104]),(qI 0)]),oM 158 160]
abbrev ae.r26:=[oL 161 tP 2,oN 162 (.build aD [(0,(qI 9))]),oA 163 436 [(.s 161),(.s 162)]]
abbrev ae.r27:=[oM 165 5,oN 166 (.callv false [] (.s 165) [(qS #[114,101,97,100]),(qI 3)]),oM 164 166]
abbrev ae.r28:=[oL 168 tP 2,oK 169 168,oE 170 (.cons tS (.cons tP .unit)) 1 tP 169,oL 171 tP 170,oL 172 tSl 4,pX 173 tS 172 1,oL 174 tS 173,pQ 175 435 174,oL 176 tSl 4,pX 177 tS 176 2,oL 178 tS 177,oL 179 tSl 4,pX 180 tS 179 3,oL 181 tS 180,pQ 182 435 181,oA 183 312 [(.s 171),(.s 175),(.s 178),(.s 182)],oM 167 183,oZ 184 167 0,oZ 185 167 1,oZ 186 167 2,oM 9 184,oM 10 185,oM 11 186]
abbrev ae.r29:=[oM 187 11,oI 188 .neq 187 0]
abbrev ae.r30:=[oL 189 tP 2,oM 190 11,pQ 191 347 190,oN 192 (.bin .add (qS #[110,111,32]) (.s 191)),oA 193 437 [(.s 189),(.s 192)]]
abbrev ae.r31:=[oM 194 10,pU 195 194]
abbrev ae.r32:=[oL 196 tP 2,oN 197 (.call false [] 437 [(.s 196),(qS #[110,111,110,101])])]
abbrev ae.r33:=[oL 198 tP 2,oM 199 9,pQ 200 343 199,oA 201 437 [(.s 198),(.s 200)]]
abbrev ae.r34:=[oM 203 5,oN 204 (.callv false [] (.s 203) [(qS #[108,105,115,116]),(qI 1)]),oM 202 204]
abbrev ae.r35:=[pC 12 (qS #[110,97,109,101,115])]
abbrev ae.r36:=[oL 205 tP 2,oK 206 205,oE 207 (.cons tS (.cons tP .unit)) 1 tP 206,oL 208 tP 207,oL 209 tSl 4,pX 210 tS 209 1,oL 211 tS 210,pQ 212 435 211,oA 213 273 [(.s 208),(.s 212)],oM 13 213]
abbrev ae.r37:=[oC 14 0]
abbrev ae.r38:=[oM 214 14,oM 215 13,oY 216 215,oB 217 .lss 214 216]
abbrev ae.r39:=[oM 218 14,oI 219 .add 218 1,oM 14 219]
abbrev ae.r40:=[oM 220 12,oM 221 13,oM 222 14,oX 223 tS 221 222,oL 224 tS 223,oN 225 (.bin .add (qS #[32]) (.s 224)),oB 226 .add 220 225,oM 12 226]
abbrev ae.r41:=[oL 227 tP 2,oM 228 12,oA 229 437 [(.s 227),(.s 228)]]
abbrev ae.r42:=[oM 231 5,oN 232 (.callv false [] (.s 231) [(qS #[115,97,109,101]),(qI 4)]),oM 230 232]
abbrev ae.r43:=[oM 233 6,oL 234 tP 2,oK 235 234,oE 236 (.cons tS (.cons tP .unit)) 1 tP 235,oL 237 tP 236,oL 238 tSl 4,pX 239 tS 238 1,oL 240 tS 239,pQ 241 435 240,oL 242 tSl 4,pX 243 tS 242 2,oL 244 tS 243,oL 245 tSl 4,pX 246 tS 245 3,oL 247 tS 246,pQ 248 435 247,oL 249 tSl 4,pX 250 tS 249 4,oL 251 tS 250,oA 252 310 [(.s 237),(.s 241),(.s 244),(.s 248),(.s 251)],oN 253 (.callv false [] (.s 233) [(.s 252)])]
abbrev ae.r44:=[oM 255 5,oN 256 (.callv false [] (.s 255) [(qS #[115,117,114,101]),(qI 2)]),oM 254 256]
abbrev ae.r45:=[oM 257 6,oL 258 tP 2,oK 259 258,oE 260 (.cons tS (.cons tP .unit)) 1 tP 259,oL 261 tP 260,oL 262 tSl 4,pX 263 tS 262 1,oL 264 tS 263,pQ 265 435 264,oL 266 tSl 4,pX 267 tS 266 2,oL 268 tS 267,oA 269 311 [(.s 261),(.s 265),(.s 268)],oN 270 (.callv false [] (.s 257) [(.s 269)])]
abbrev ae.r46:=[oM 272 5,oN 273 (.callv false [] (.s 272) [(qS #[100,105,115,107]),(qI 0)]),oM 271 273]
abbrev ae.r47:=[oL 274 tP 2,oK 275 274,oE 276 (.cons tS (.cons tP .unit)) 0 tS 275,oL 277 tS 276,oL 278 tP 2,oK 279 278,oE 280 (.cons tS (.cons tP .unit)) 1 tP 279,oL 281 tP 280,oK 282 281,oE 283 tBed 1 ac 282,pQ 284 341 283,oB 285 .add 277 284,oK 286 274,oE 287 (.cons tS (.cons tP .unit)) 0 tS 286,oS tS 287 285]
abbrev ae.r48:=[oL 288 tP 2,oN 289 (.call false [] 437 [(.s 288),(qS #[101,110,100])])]
abbrev ae.r49:=[oM 291 5,oN 292 (.callv false [] (.s 291) [(qS #[100,105,114,116,121]),(qI 0)]),oM 290 292]
abbrev ae.r50:=[pC 15 (qS #[100,105,114,116,121])]
abbrev ae.r51:=[oC 16 0]
abbrev ae.r52:=[oM 293 16,oI 294 .lss 293 14]
abbrev ae.r53:=[oM 295 16,oI 296 .add 295 1,oM 16 296]
abbrev ae.r54:=[oL 297 tP 2,oK 298 297,oE 299 (.cons tS (.cons tP .unit)) 1 tP 298,oL 300 tP 299,oK 301 300,oE 302 tBed 1 ac 301,oL 303 ac 302,pN 17 ac,oS ac 17 303]
abbrev ae.r55:=[oM 305 16,oA 306 6 [(.s 305)],oM 304 306,oZ 307 304 0,oZ 308 304 1,oM 18 307,oM 19 308]
abbrev ae.r56:=[oM 309 18]
abbrev ae.r57:=[oM 310 19,oL 311 tP 2,oK 312 311,oE 313 (.cons tS (.cons tP .unit)) 1 tP 312,oL 314 tP 313,oM 315 19,oK 316 314,oE 317 tBed 0 ac 316,oE 318 ac 2 dD 317,oJ 319 9 cf 318 315,oL 320 cf 319,oE 321 ac 2 dD 17,oJ 322 9 cf 321 310,oS cf 322 320]
abbrev ae.r58:=[pV 324 .eql 309 (qS #[105,110,111,100,101,115]),oM 323 324]
abbrev ae.r59:=[oC 20 0]
abbrev ae.r60:=[oM 325 20,oI 326 .lss 325 4]
abbrev ae.r61:=[oM 327 20,oI 328 .add 327 1,oM 20 328]
abbrev ae.r62:=[oM 329 19,oM 330 20,oB 331 .add 329 330,oL 332 tP 2,oK 333 332,oE 334 (.cons tS (.cons tP .unit)) 1 tP 333,oL 335 tP 334,oM 336 19,oM 337 20,oB 338 .add 336 337,oK 339 335,oE 340 tBed 0 ac 339,oE 341 ac 0 aK 340,oJ 342 8 aj 341 338,oL 343 aj 342,oE 344 ac 0 aK 17,oJ 345 8 aj 344 331,oS aj 345 343]
abbrev ae.r63:=[pV 347 .eql 309 (qS #[100,105,114]),oM 346 347]
abbrev ae.r64:=[oM 348 19,oL 349 tP 2,oK 350 349,oE 351 (.cons tS (.cons tP .unit)) 1 tP 350,oL 352 tP 351,oM 353 19,oK 354 352,oE 355 tBed 0 ac 354,oE 356 ac 1 cI 355,oJ 357 3 dC 356 353,oL 358 dC 357,oE 359 ac 1 cI 17,oJ 360 3 dC 359 348,oS dC 360 358]
abbrev ae.r65:=[oL 361 ac 17,oL 362 tP 2,oK 363 362,oE 364 (.cons tS (.cons tP .unit)) 1 tP 363,oL 365 tP 364,oK 366 365,oE 367 tBed 1 ac 366,oL 368 ac 367,oN 369 (.eq true ac (.s 361) (.s 368))]
abbrev ae.r66:=[oM 370 15,oM 371 16,oA 372 347 [(.s 371)],oN 373 (.bin .add (qS #[32]) (.s 372)),oB 374 .add 370 373,oM 15 374]
abbrev ae.r67:=[oL 375 tP 2,oM 376 15,oA 377 437 [(.s 375),(.s 376)]]
abbrev ae.r68:=[oM 379 5,oN 380 (.callv false [] (.s 379) [(qS #[108,111,115,116]),(qI 0)]),oM 378 380]
abbrev ae.r69:=[oL 381 tP 2,oL 382 tP 2,oK 383 382,oE 384 (.cons tS (.cons tP .unit)) 1 tP 383,oL 385 tP 384,oK 386 385,oE 387 tBed 3 tI 386,oL 388 tI 387,pQ 389 347 388,oN 390 (.bin .add (qS #[108,111,115,116,32]) (.s 389)),pV 391 .add 390 (qS #[32]),oL 392 tP 2,oK 393 392,oE 394 (.cons tS (.cons tP .unit)) 1 tP 393,oL 395 tP 394,oK 396 395,oE 397 tBed 4 tI 396,oL 398 tI 397,pQ 399 347 398,oB 400 .add 391 399,pV 401 .add 400 (qS #[32]),oL 402 tP 2,oK 403 402,oE 404 (.cons tS (.cons tP .unit)) 1 tP 403,oL 405 tP 404,oK 406 405,oE 407 tBed 5 tI 406,oL 408 tI 407,pQ 409 347 408,oB 410 .add 401 409,pV 411 .add 410 (qS #[32]),oL 412 tP 2,oK 413 412,oE 414 (.cons tS (.cons tP .unit)) 1 tP 413,oL 415 tP 414,oK 416 415,oE 417 tBed 6 tI 416,oL 418 tI 417,pQ 419 347 418,oB 420 .add 411 419,oA 421 437 [(.s 381),(.s 420)]]
abbrev ae.body:=gS (gR ae.r0 [0]) (gS (gR ae.r1 [1,21,22]) (gS (gS (gR ae.r2 [23,24]) (gC 25 .ret .skip)) (gS (gR ae.r3 [26]) (gS (gR ae.r4 [27]) (.block 0 (gS (gR ae.r6 [31,32]) (gC 30 (gT ae.r7 [2,4,33,34,35,36,37,38,39,40,41,42]) (gS (gR ae.r8 [44,45]) (gC 43 (gT ae.r9 [2,4,46,47,48,49,50,51,52,53,54,55]) (gS (gR ae.r10 [57,58]) (gC 56 (gT ae.r11 [2,4,59,60,61,62,63,64,65,66,67,68,69,70,71,72,73,74,75]) (gS (gR ae.r12 [77,78]) (gC 76 (gT ae.r13 [2,4,79,80,81,82,83,84,85,86,87,88,89,90,91,92,93,94,95]) (gS (gR ae.r14 [97,98]) (gC 96 (gS (gR ae.r15 [99,100,101,102,103,104,105]) (gS (gS (gR ae.r16 [8,106]) (gC 107 (gS (gR ae.r17 [2,108,109]) .ret) .skip)) (gT ae.r18 [2,4,7,110,111,112,113,114,115,116,117,118,119,120,121,122,123,124]))) (gS (gR ae.r19 [126,127]) (gC 125 (gT ae.r20 [2,4,128,129,130,131,132,133,134,135,136,137,138,139,140,141]) (gS (gR ae.r21 [143,144]) (gC 142 (gT ae.r22 [2,4,145,146,147,148,149,150,151]) (gS (gR ae.r23 [153,154]) (gC 152 (gR ae.r24 [2,155,156,157]) (gS (gR ae.r25 [159,160]) (gC 158 (gR ae.r26 [2,161,162,163]) (gS (gR ae.r27 [165,166]) (gC 164 (gS (gT ae.r28 [4,167,168,169,170,171,172,173,174,175,176,177,178,179,180,181,182,183,184,185,186]) (gS (gR ae.r29 [187]) (gC 188 (gT ae.r30 [2,11,189,190,191,192,193]) (gS (gR ae.r31 [10,194]) (gC 195 (gR ae.r32 [2,196,197]) (gT ae.r33 [2,9,198,199,200,201])))))) (gS (gR ae.r34 [203,204]) (gC 202 (gS (gR ae.r35 []) (gS (gT ae.r36 [4,205,206,207,208,209,210,211,212,213]) (gS (gS (gR ae.r37 []) (.block 1 (.loop [2,12,13,14] [2] (gS (gS (gR ae.r38 [214,215,216]) (gC 217 .skip (.exit 1))) (gS (.block 2 (gR ae.r40 [220,221,222,223,224,225,226])) (gR ae.r39 [218,219])))))) (gR ae.r41 [2,12,227,228,229])))) (gS (gR ae.r42 [231,232]) (gC 230 (gT ae.r43 [2,4,6,233,234,235,236,237,238,239,240,241,242,243,244,245,246,247,248,249,250,251,252,253]) (gS (gR ae.r44 [255,256]) (gC 254 (gT ae.r45 [2,4,6,257,258,259,260,261,262,263,264,265,266,267,268,269,270]) (gS (gR ae.r46 [272,273]) (gC 271 (gS (gT ae.r47 [274,275,276,277,278,279,280,281,282,283,284,285,286,287]) (gR ae.r48 [2,288,289])) (gS (gR ae.r49 [291,292]) (gC 290 (gS (gR ae.r50 []) (gS (gS (gR ae.r51 []) (.block 3 (.loop [2,15,16] [2] (gS (gS (gR ae.r52 [293]) (gC 294 .skip (.exit 3))) (gS (.block 4 (gS (gR ae.r54 [297,298,299,300,301,302,303]) (gS (gR ae.r55 [304,305,306,307,308]) (gS (gS (gR ae.r56 [18]) (.block 5 (gS (gR ae.r58 [324]) (gC 323 (gS (gR ae.r59 []) (.block 6 (.loop [2,15,16,17,19,20] [2,17] (gS (gS (gR ae.r60 [325]) (gC 326 .skip (.exit 6))) (gS (.block 7 (gR ae.r62 [329,330,331,332,333,334,335,336,337,338,339,340,341,342,343,344,345])) (gR ae.r61 [327,328])))))) (gS (gR ae.r63 [309,347]) (gC 346 (gR ae.r64 [19,348,349,350,351,352,353,354,355,356,357,358,359,360]) (gR ae.r57 [19,310,311,312,313,314,315,316,317,318,319,320,321,322]))))))) (gS (gT ae.r65 [17,361,362,363,364,365,366,367,368]) (gC 369 (gR ae.r66 [370,371,372,373,374]) .skip)))))) (gR ae.r53 [295,296])))))) (gR ae.r67 [2,15,375,376,377]))) (gS (gR ae.r68 [5,379,380]) (gC 378 (gT ae.r69 [2,381,382,383,384,385,386,387,388,389,390,391,392,393,394,395,396,397,398,399,400,401,402,403,404,405,406,407,408,409,410,411,412,413,414,415,416,417,418,419,420,421]) (gR ae.r5 [2,28,29]))))))))))))))))))))))))))))))))))))))
abbrev ae:=gF 2 [] ae.body
abbrev fK.r0:=[oC 2 0]
abbrev fK.r1:=[oM 6 0,oA 7 424 [(.s 6)],oM 5 7,oZ 8 5 0,oZ 9 5 1,oM 3 8,oM 4 9]
abbrev fK.r2:=[oM 10 4,oN 11 (.eqif true (.s 10) (.c (.iface false))),oM 12 11,oF 13 3 12,zB 14 .lss 13 0 12,oO 15 12 14,oM 16 15,oF 17 3 16,oH 18 (.call false [] 347 [(.s 17)]) 16,oF 19 0 16,oH 20 (.bin .neq (.s 18) (.s 19)) 16,oO 21 16 20]
abbrev fK.r3:=[pC 2 (qI (-1))]
abbrev fK.r4:=[oM 22 3,oM 2 22]
abbrev fK.body:=gS (gR fK.r0 [2]) (gS (gR fK.r1 [5,6,7,8,9]) (gS (gS (gR fK.r2 [0,4,10,11,12,13,14,15,16,17,18,19,20]) (gC 21 (gS (gR fK.r3 []) .ret) .skip)) (gS (gR fK.r4 [3,22]) .ret)))
abbrev fK:=gF 1 [.tmp 2] fK.body
abbrev dx.r0:=[oN 3 (.box false aD (.s 1))]
abbrev dx.r1:=[oM 5 0,oK 6 5,oE 7 (.cons tS (.cons tP .unit)) 1 tP 6,oL 8 tP 7,oL 9 aD 3,oA 10 282 [(.s 8),(.s 9)],oM 4 10]
abbrev dx.r2:=[oM 11 4,oI 12 .neq 11 0]
abbrev dx.r3:=[oM 13 0,oM 14 4,oA 15 347 [(.s 14)],oN 16 (.bin .add (qS #[110,111,32]) (.s 15)),oA 17 437 [(.s 13),(.s 16)]]
abbrev dx.r4:=[oM 18 0,oN 19 (.call false [] 437 [(.s 18),(qS #[111,107])])]
abbrev dx.body:=gS (gR dx.r0 [1]) (gS (gT dx.r1 [3,5,6,7,8,9,10]) (gS (gR dx.r2 [11]) (gC 12 (gR dx.r3 [0,4,13,14,15,16,17]) (gR dx.r4 [0,18,19]))))
abbrev dx:=gF 2 [] dx.body
abbrev g7.r0:=[oM 4 0,oK 5 4,oE 6 (.cons tS (.cons tP .unit)) 0 tS 5,oL 7 tS 6,oM 8 1,pV 9 .add 8 (qS #[10]),oB 10 .add 7 9,oK 11 4,oE 12 (.cons tS (.cons tP .unit)) 0 tS 11,oS tS 12 10]
abbrev g7.body:=gR g7.r0 [0,1,4,5,6,7,8,9,10,11,12]
abbrev g7:=gF 2 [] g7.body
abbrev dE.r0:=[oM 3 0]
abbrev dE.r1:=[oL 4 tP 1,oN 5 (.call false [] 437 [(.s 4),(qS #[116,114,117,101])])]
abbrev dE.r2:=[oL 6 tP 1,oN 7 (.call false [] 437 [(.s 6),(qS #[102,97,108,115,101])])]
abbrev dE.body:=gS (gR dE.r0 [0]) (gC 3 (gR dE.r1 [1,4,5]) (gR dE.r2 [1,6,7]))
abbrev dE:MFun:={params:=1,nfree:=1,res:=[],body:=dE.body}
abbrev eo.r0:=[pC 5 qF]
abbrev eo.r1:=[oL 6 tSl 2,pX 7 tS 6 0,oL 8 tS 7,oM 9 0,oB 10 .eql 8 9,oM 11 10,pL 12 tSl 2 11,oG 13 (.len false (.s 12)) 11,oT 14 1 11,oG 15 (.bin .add (qI 1) (.s 14)) 11,pB 16 .eql 13 15 11,oQ 17 11 16,oM 5 17]
abbrev eo.body:=gS (gR eo.r0 [5]) (gS (gR eo.r1 [0,1,2,6,7,8,9,10,11,12,13,14,15,16,17]) .ret)
abbrev eo:MFun:={params:=2,nfree:=1,res:=[.tmp 5],body:=eo.body}
abbrev cW.r0:=[pC 2 (.c .nilsl)]
abbrev cW.r1:=[pC 3 (.c .nilsl)]
abbrev cW.r2:=[pC 4 (qS #[])]
abbrev cW.r3:=[oC 5 0]
abbrev cW.r4:=[oM 6 5,oM 7 0,oN 8 (.len true (.s 7)),oB 9 .leq 6 8]
abbrev cW.r5:=[oM 10 5,oI 11 .add 10 1,oM 5 11]
abbrev cW.r6:=[oM 12 5,oM 13 0,oN 14 (.len true (.s 13)),oB 15 .lss 12 14,oM 16 15,oT 17 0 16,oT 18 5 16,oG 19 (.stridx (.s 17) (.s 18)) 16,oG 20 (.bin .neq (.s 19) (.c (.int .u8 32))) 16,oQ 21 16 20]
abbrev cW.r7:=[oM 22 4,oM 23 0,oM 24 5,oM 25 5,oI 26 .add 25 1,oN 27 (.strsl (.s 23) (some (.s 24)) (some (.s 26))),oB 28 .add 22 27,oM 4 28]
abbrev cW.r8:=[oM 29 4,pV 30 .neq 29 (qS #[])]
abbrev cW.r9:=[oM 31 3,oM 32 4,oN 33 (.bslice false tS 1 [(0,(.s 32))]),oN 34 (.append true [] tS (.s 31) (.s 33)),oM 3 34]
abbrev cW.r10:=[pC 4 (qS #[])]
abbrev cW.r11:=[oM 35 3,oM 2 35]
abbrev cW.body:=gS (gR cW.r0 [2]) (gS (gR cW.r1 []) (gS (gR cW.r2 []) (gS (gS (gR cW.r3 []) (.block 0 (.loop [0,3,4,5] [34] (gS (gS (gR cW.r4 [6,7,8]) (gC 9 .skip (.exit 0))) (gS (.block 1 (gS (gS (gR cW.r6 [12,13,14,15,16,17,18,19,20]) (gC 21 (gS (gR cW.r7 [22,23,24,25,26,27,28]) (.exit 1)) .skip)) (gS (gS (gR cW.r8 [29]) (gC 30 (gR cW.r9 [4,31,32,33,34]) .skip)) (gR cW.r10 [])))) (gR cW.r5 [10,11])))))) (gS (gR cW.r11 [3,35]) .ret))))
abbrev cW:=gF 1 [.tmp 2] cW.body
abbrev aZ.r0:=[pC 4 qF]
abbrev aZ.r1:=[oA 12 403 [],pU 13 12]
abbrev aZ.r2:=[pC 4 qF]
abbrev aZ.r3:=[oM 14 0,oY 15 14,oI 16 .gtr 15 200,oM 17 16,oF 18 1 17,oH 19 (.len false (.s 18)) 17,zB 20 .gtr 19 200 17,oO 21 17 20,oM 22 21,oF 23 0 22,oH 24 (.call false [] 402 [(.s 23)]) 22,oO 25 22 24,oM 26 25,oF 27 1 26,oH 28 (.call false [] 402 [(.s 27)]) 26,oO 29 26 28]
abbrev aZ.r4:=[pC 4 qT]
abbrev aZ.r5:=[oA 30 400 [],oM 5 30]
abbrev aZ.r6:=[oA 31 432 [],oM 6 31]
abbrev aZ.r7:=[oM 32 0,oM 33 1,oN 34 (.bslice false tSl 2 [(0,(.s 32)),(1,(.s 33))]),oM 7 34]
abbrev aZ.r8:=[oC 8 0]
abbrev aZ.r9:=[oM 35 8,oI 36 .lss 35 2]
abbrev aZ.r10:=[oM 37 8,oI 38 .add 37 1,oM 8 38]
abbrev aZ.r11:=[oM 40 5,oM 41 7,oM 42 8,oX 43 tSl 41 42,oL 44 tSl 43,oA 45 401 [(.s 40),(.s 44)],oM 39 45,oZ 46 39 0,oZ 47 39 1,pN 10 (.cons tI (.cons tI .unit)),oM 9 46,oS (.cons tI (.cons tI .unit)) 10 47]
abbrev aZ.r12:=[oM 48 7,oM 49 8,oX 50 tSl 48 49,oL 51 tSl 50,oA 52 431 [(.s 51)],pN 11 (.cons tI (.cons tI .unit)),oS (.cons tI (.cons tI .unit)) 11 52]
abbrev aZ.r13:=[oN 53 (.load false none (.cons tI (.cons tI .unit)) (.s 10)),oN 54 (.load false none (.cons tI (.cons tI .unit)) (.s 11)),oN 55 (.eq true (.cons tI (.cons tI .unit)) (.s 53) (.s 54)),oM 56 55,zE 57 (.cons tI (.cons tI .unit)) 0 tI 11 56,zL 58 tI 57 56,zB 59 .neq 58 0 56,oF 60 59 56,oT 61 9 60,oG 62 (.bin .neq (.s 61) (qS #[])) 60,oH 63 (.pick (.s 60) (.s 62) qF) 56,oO 64 56 63]
abbrev aZ.r14:=[pC 4 qF]
abbrev aZ.r15:=[oE 65 (.cons tI (.cons tI .unit)) 0 tI 11,oL 66 tI 65,oI 67 .eql 66 0,oM 68 67,oT 69 9 68,oT 70 6 68,oT 71 7 68,oT 72 8 68,oG 73 (.sidx false tSl (.s 71) (.s 72)) 68,pL 74 tSl 73 68,oG 75 (.call false [] 430 [(.s 70),(.s 74)]) 68,pB 76 .neq 69 75 68,oQ 77 68 76]
abbrev aZ.r16:=[pC 4 qF]
abbrev aZ.r17:=[pC 4 qT]
abbrev aZ.body:=gS (gR aZ.r0 [4]) (gS (gS (gR aZ.r1 [12]) (gC 13 (gS (gR aZ.r2 []) .ret) .skip)) (gS (gS (gR aZ.r3 [14,15,16,17,18,19,20,21,22,23,24,25,26,27,28]) (gC 29 (gS (gR aZ.r4 []) .ret) .skip)) (gS (gR aZ.r5 [30]) (gS (gR aZ.r6 [31]) (gS (gR aZ.r7 [0,1,32,33,34]) (gS (gS (gR aZ.r8 []) (.block 0 (.loop [5,6,7,8] [34] (gS (gS (gR aZ.r9 [35]) (gC 36 .skip (.exit 0))) (gS (.block 1 (gS (gR aZ.r11 [39,40,41,42,43,44,45,46,47]) (gS (gR aZ.r12 [48,49,50,51,52]) (gS (gS (gR aZ.r13 [10,53,54,55,56,57,58,59,60,61,62,63]) (gC 64 (gS (gR aZ.r14 []) .ret) .skip)) (gS (gR aZ.r15 [9,11,65,66,67,68,69,70,71,72,73,74,75,76]) (gC 77 (gS (gR aZ.r16 []) .ret) .skip)))))) (gR aZ.r10 [37,38])))))) (gS (gR aZ.r17 []) .ret)))))))
abbrev aZ:=gF 2 [.tmp 4] aZ.body
end Fn
noncomputable def Jx:List (Option MFun):=[none,none,none,none,none,none,none,none,none,none,none,none,none,none,none,none,none,none,none,none,none,none,none,none,none,none,none,none,none,none,none,none,none,none,none,none,none,none,none,none,none,none,none,none,none,none,none,none,none,none,none,none,none,none,none,none,none,none,none,none,none,none,none,none,none,none,none,none,none,none,none,none,none,none,none,none,none,none,none,none,none,none,none,none,none,none,none,none,none,none,none,none,none,none,none,none,none,none,none,none,none,none,none,none,none,none,none,none,none,none,none,none,none,none,none,none,none,none,none,none,none,none,none,none,none,none,none,none,none,none,none,none,none,none,none,none,none,none,none,none,none,none,none,none,none,none,none,none,none,none,none,none,none,none,none,none,none,none,none,none,none,none,none,none,none,none,none,none,none,none,none,none,none,none,none,none,none,none,none,none,none,none,none,none,none,none,none,none,none,none,none,none,none,none,none,none,none,none,none,none,none,none,none,none,none,none,none,none,none,none,none,none,none,none,none,none,none,none,none,none,none,none,none,none,none,none,none,none,none,none,some Fn.dB,some Fn.bE,some Fn.gz,some Fn.r_F,some Fn.ae,some Fn.fK,some Fn.dx,some Fn.g7,some Fn.dE,some Fn.eo,some Fn.cW,some Fn.aZ]
noncomputable def A2:List (Option MFun):=jG EF (List.replicate 200 none++Jx)
noncomputable def gI(f:Nat):Option MFun:=A2.getD f none
theorem Js(i:Nat)(fn:MFun)(h:ff i=some fn):gI i=some fn:=fu _ _ _ _ h
variable{cx:Cx}{fn:MFun}
theorem upW{e:St}{R:AV->HP->Prop}(h:Ok ff cx fn e R):Ok gI cx fn e R:=by
 obtain⟨n,s',v,hr,hv,hR⟩:=h
 exact⟨n,s',v,m9 Js hr,hv,hR⟩
abbrev tRD:Ty:=.cons tS (.cons tP .unit)
def encRD(bs:List UInt8)(e:Nat):AV:=.cons (.str (bsL bs)) (.cons (.ptr (.obj e) [] tBed) .unit)
@[go_sem] theorem OD(bs:List UInt8)(e:Nat):(encRD bs e).at [0]=some (.str (bsL bs)):=by simp[encRD,AV.at]
@[go_sem] theorem OC(bs:List UInt8)(e:Nat):(encRD bs e).at [1]=some (.ptr (.obj e) [] tBed):=by simp[encRD,AV.at]
@[go_sem] theorem Md(bs cs:List UInt8)(e:Nat):(encRD bs e).put [0] (.str (bsL cs))=some (encRD cs e):=by simp[encRD,AV.put]
@[go_sem] theorem Mc(bs:List UInt8)(e:Nat):(encRD bs e).put [0] (.str ⟨#[]⟩)=some (encRD [] e):=by simp[encRD,AV.put,bsL]
@[go_sem] theorem II:Ty.field (.cons tS (.cons tP .unit)) 0=some tS:=rfl
@[go_sem] theorem IH:Ty.field (.cons tS (.cons tP .unit)) 1=some tP:=rfl
@[go_sem] theorem MJ(e:Nat):fill (.cons tS (.cons tP .unit)) (.cons (.str ⟨#[]⟩) (.cons .nilp .unit)) [(1,.ptr (.obj e) [] tBed)]=some (encRD [] e):=rfl
@[go_sem] theorem KN(e:Nat):fill (.cons tS (.cons tP .unit)) (Ty.zero (.cons tS (.cons tP .unit))) [(1,.ptr (.obj e) [] tBed)]=some (encRD [] e):=rfl
variable{T:MTb}{d f j m n o:Nat}{h h1:HP}{k:List Item}{x y:Opd}
@[go_sem] theorem Nw{kill:List Nat}{r:List MOp}{sl:Slots}{own:Own}{Q:St->Prop}:W T cx (.ops (⟨some d,.box true (.cons tS (.cons tP .unit)) x,none⟩::r) kill::k) ⟨sl,own,h⟩ Q=WBX T cx tRD (St.opd ⟨sl,own,h⟩ x) d r kill k sl own h Q:=o5
@[go_sem] theorem DY(bs:List UInt8)(e:Nat):(Ty.fits (.cons tS (.cons tP .unit)) (encRD bs e)=true)=True:=eq_true rfl
@[go_sem] theorem OZ{kill:List Nat}{r:List MOp}{sl:Slots}{own:Own}{Q:St->Prop}{bs:List UInt8}{e:Nat}:WBX T cx (.cons tS (.cons tP .unit)) (encRD bs e) d r kill k sl own h Q=W T cx (.ops r kill::k) ⟨sl.set d (.ptr (.obj h.next) [] tRD),own,h.nw tRD (encRD bs e)⟩ Q:=by
 simp only[WBX,DY,true_and]
variable{a v:AV}{l ls:List Str}{s w:Str}
section
variable{cx:Cx}{h:HP}{d e:Nat}{bs:List UInt8}
theorem Er:Ok gI cx Fn.gz (St.enter [] h) fun v h'=>v=.ptr (.obj (h.next+1)) [] tRD/\h'=(h.nw tBed (Bd.enc ⟨.blank,.blank,0,0,0,0,0⟩)).nw tRD (encRD [] h.next):=by
 rw[aE]
 simp(disch:=omega)only[go_sem]
 refine bK (v:=.ptr (.obj h.next) [] tBed) (h.nw tBed (Bd.enc ⟨.blank,.blank,0,0,0,0,0⟩)) rfl ⟨rfl,rfl⟩ rfl (by simp only[go_sem];exact upW (upV (upT Aw))) ?_
 simp(disch:=omega)only[go_sem]
theorem ge{s:List UInt8}(hl:HL cx)(hd:h.look (.obj d)=some ⟨tRD,encRD bs e⟩)(hm:bs.length+s.length<=10000000):
  Ok gI cx Fn.g7 (St.enter [.ptr (.obj d) [] tRD,.str (bsL s)] h) fun v h'=>v=.tup .unit/\h'=h.ob d tRD (encRD (bs++(s++[10])) e):=by
 rw[aE]
 have e1:evStr .add (bsL s) ⟨#[10]⟩=some (.str (bsL (s++[10]))):=cD (b:=[10]) (by simp;omega)
 have e2:evStr .add (bsL bs) (bsL (s++[10]))=some (.str (bsL (bs++(s++[10])))):=cD (by simp;omega)
 simp(disch:=omega)only[go_sem,hd,e1,e2,cN (hl d)]
theorem gk{n:Int}(hn:i64 n):Ok gI cx Fn.nf (St.enter [.int .i64 n] h) fun v h'=>v=.str (bsL (bz n))/\h'=h:=upW (upV (gu hn))
theorem dJ(hs:s.size<=1000000):Ok gI cx Fn.fK (St.enter [.str s] h) fun v h'=>v=.int .i64 (numC s)/\h'=h:=by
 rw[aE]
 simp(disch:=omega)only[go_sem]
 refine am rfl ⟨rfl,rfl⟩ (by simp only[go_sem];exact upW (y2 hs)) ?_
 simp(disch:=omega)only[go_sem]
 cases he:kW s with
 |true=>
  simp(disch:=omega)only[go_sem,he]
  simp[numC,he]
 |false=>
  simp(disch:=omega)only[go_sem,he]
  by_cases hn:gV s<0
  ·simp(disch:=omega)only[go_sem,hn]
   simp[numC,hn]
  ·simp(disch:=omega)only[go_sem,hn]
   refine am rfl ⟨rfl,rfl⟩ (by simp only[go_sem];exact gk (tF s)) ?_
   simp(disch:=omega)only[go_sem]
   by_cases hq:bsL (bz (gV s))=s
   ·simp(disch:=omega)only[go_sem,hq]
    simp[numC,he,hn,hq]
   ·simp(disch:=omega)only[go_sem,hq]
    simp[numC,hq]
theorem Fy{a b:Int}:Ok gI cx Fn.r_F (St.enter [.int .i64 a,.int .i64 b] h) fun v h'=>v=eH a b/\h'=h:=by
 rw[aE]
 simp(disch:=omega)only[go_sem]
theorem gY{L:Lf}{x:SStep}(hl:HL cx)(hd:h.look (.obj d)=some ⟨tRD,encRD bs e⟩)(hB:h.look (.obj e)=some ⟨tBed,(bdOf L).enc⟩)(hde:¬d=e)(hi:Inv0 L.fl)(hx:x.ok)(hm:bs.length<=1000000)(hc:i64 (eB L x)):
  Ok gI cx Fn.dx (St.enter [.ptr (.obj d) [] tRD,x.enc] h) fun v h'=>v=.tup .unit/\h'=(h.ob e tBed (bdOf (lifeF L x)).enc).ob d tRD (encRD (bs++sayL (eQ L x)) e):=by
 have hed:¬e=d:=fun q=>hde q.symm
 rw[aE]
 simp(disch:=omega)only[go_sem,hd]
 refine bK (v:=.int .i64 (eB L x)) (h.ob e tBed (bdOf (lifeF L x)).enc) rfl ⟨rfl,rfl⟩ rfl (by simp only[go_sem];exact upW (upV (upT (C8 (L:=L) (h:=h.push cx.lvl [(3,⟨aD,x.enc⟩)]) (by exact hl) hB hi hx)))) ?_
 have hd':(h.ob e tBed (bdOf (lifeF L x)).enc).look (.obj d)=some ⟨tRD,encRD bs e⟩:=by rw[b0 hde];exact hd
 have en:evStr .add ⟨#[110,111,32]⟩ (bsL (bz (eB L x)))=some (.str (bsL (110::111::32::bz (eB L x)))):=cD (a:=[110,111,32]) (by have:=cT hc;simp;omega)
 have el:=cT hc
 by_cases c0:eB L x=0
 ·simp(disch:=omega)only[go_sem,c0]
  refine bK (v:=.tup .unit) ((h.ob e tBed (bdOf (lifeF L x)).enc).ob d tRD (encRD (bs++([111,107]++[10])) e)) rfl ⟨rfl,rfl⟩ rfl (by simp only[go_sem];exact ge (s:=[111,107]) (bs:=bs) (by exact hl) (by simp only[go_sem,hd']) (by simp;omega)) ?_
  simp(disch:=omega)only[go_sem]
  simp[eQ,c0,sayL,fk,Lib.join,wOk]
 ·simp(disch:=omega)only[go_sem,c0]
  refine am rfl ⟨rfl,rfl⟩ (by simp only[go_sem];exact gk hc) ?_
  simp(disch:=omega)only[go_sem,en]
  refine bK (v:=.tup .unit) ((h.ob e tBed (bdOf (lifeF L x)).enc).ob d tRD (encRD (bs++((110::111::32::bz (eB L x))++[10])) e)) rfl ⟨rfl,rfl⟩ rfl (by simp only[go_sem];exact ge (s:=110::111::32::bz (eB L x)) (bs:=bs) (by exact hl) (by simp only[go_sem,hd']) (by simp;omega)) ?_
  simp(disch:=omega)only[go_sem]
  simp[eQ,c0,sayL,fk,Lib.join,wNo,bsL]
def isW(l:List Str)(w:Str)(n:Nat):Bool:=decide (txt l 0=w)&&decide (l.length=1+n)
theorem Hi{i:Id}(hb:i.below cx.lvl)(hi:h.rd i []=some v)(hv:Txs h cx.lvl v l)(hvs:(tSl.fits v=true)=True)(h0:0<l.length)(hn:n<10):
  Ok gI cx Fn.eo (St.enter [.str w,.int .i64 n,.ptr i [] tSl] h) fun v h'=>v=.bool (isW l w n)/\h'=h:=by
 have hix:=fun z sl own=>hv.ix (cx:=cx) (kk:=.i64) (z:=z) sl own
 have hlv:=fun z sl own=>hv.lv (cx:=cx) (z:=z) sl own
 have hfg:=fun t=>hv.fg (t:=t)
 have hld:=fun t=>hv.ld (t:=t)
 have hfx:=fun z t=>hv.fgx (t:=t) z
 have hlx:=fun z t=>hv.ldx (t:=t) z
 have hln:=hv.len
 rw[aE]
 simp(disch:=omega)only[go_sem,aw hb,hi,au hb,af hb,ah hb,hix,hlv,hfg,hld,hfx,hlx,hln,h0,hvs]
 refine fd (fun c1=>?_) (fun c1=>?_)<;>simp(disch:=omega)only[go_sem,c1,c1,aw hb,hi,au hb,af hb,ah hb,hix,hlv,hfg,hld,hfx,hlx,hln,h0,hvs]
 ·have e:decide ((l.length:Int)=1+(n:Int))=decide (l.length=1+n):=decide_eq_decide.2 ⟨fun h=>by omega,fun h=>by omega⟩
  simp only[isW,c1,e,Bool.true_and]
 ·simp only[isW,c1,Bool.not_true,Bool.false_and]
theorem Ep{b:Bool}{i:Id}(hl:HL cx)(hb:i.below cx.lvl)(hi:h.rd i []=some (.ptr (.obj d) [] tRD))(hd:h.look (.obj d)=some ⟨tRD,encRD bs e⟩)(hm:bs.length<=1000000):
  Ok gI cx Fn.dE (St.enter [.bool b,.ptr i [] tP] h) fun v h'=>v=.tup .unit/\h'=h.ob d tRD (encRD (bs++sayL [boolS b]) e):=by
 rw[aE]
 cases b with
 |true=>
  simp(disch:=omega)only[go_sem,aw hb,hi,au hb,af hb,ah hb]
  refine bK (v:=.tup .unit) (h.ob d tRD (encRD (bs++([116,114,117,101]++[10])) e)) rfl ⟨rfl,rfl⟩ rfl (by simp only[go_sem];exact ge (s:=[116,114,117,101]) (bs:=bs) (by exact hl) (by simp only[go_sem,hd]) (by simp;omega)) ?_
  simp(disch:=omega)only[go_sem]
  simp[sayL,fk,Lib.join,boolS]
 |false=>
  simp(disch:=omega)only[go_sem,aw hb,hi,au hb,af hb,ah hb]
  refine bK (v:=.tup .unit) (h.ob d tRD (encRD (bs++([102,97,108,115,101]++[10])) e)) rfl ⟨rfl,rfl⟩ rfl (by simp only[go_sem];exact ge (s:=[102,97,108,115,101]) (bs:=bs) (by exact hl) (by simp only[go_sem,hd]) (by simp;omega)) ?_
  simp(disch:=omega)only[go_sem]
  simp[sayL,fk,Lib.join,boolS]
end
def stepWd(p:List Str×List UInt8)(c:UInt8):List Str×List UInt8:=if c=32 then(if p.2=[]then p.1 else p.1++[bsL p.2],[])else(p.1,p.2++[c])
def jj(p:List Str×List UInt8):List Str:=if p.2=[]then p.1 else p.1++[bsL p.2]
def mw(s:Str):List Str:=jj (s.data.toList.foldl stepWd ([],[]))
def wdAt(s:Str)(j:Nat):List Str×List UInt8:=if j<=s.size then(s.data.toList.take j).foldl stepWd ([],[])else(mw s,[])
theorem sZ:∀(l:List UInt8) (p:List Str×List UInt8),(l.foldl stepWd p).1.length<=p.1.length+l.length/\(l.foldl stepWd p).2.length<=p.2.length+l.length
 | [],p=>by simp
 |c::r,p=>by
  obtain⟨a,b⟩:=sZ r (stepWd p c)
  simp only[List.foldl_cons,List.length_cons]
  have h1:(stepWd p c).1.length<=p.1.length+1:=by
   unfold stepWd
   split
   ·dsimp only
    split
    ·omega
    ·simp
   ·exact Nat.le_succ _
  have h2:(stepWd p c).2.length<=p.2.length+1:=by
   unfold stepWd
   split
   ·simp
   ·simp
  omega
theorem y6(hj:j<s.data.toList.length):wdAt s (j+1)=stepWd (wdAt s j) s.data.toList[j]:=by
 have hs:s.data.toList.length=s.size:=Array.length_toList
 unfold wdAt
 rw[if_pos (by omega),if_pos (by omega),List.take_add_one,List.getElem?_eq_getElem hj,Option.toList_some,List.foldl_append,List.foldl_cons,List.foldl_nil]
theorem AR:wdAt s (s.size+1)=(jj (wdAt s s.size),[]):=by
 have hs:s.data.toList.length=s.size:=Array.length_toList
 unfold wdAt
 rw[if_neg (by omega),if_pos (Nat.le_refl _),List.take_of_length_le (by omega)]
 rfl
section
variable{cx:Cx}{h:HP}
theorem As(hl:HL cx)(hs:s.size<=10000):
  Ok gI cx Fn.cW (St.enter [.str s] h) fun v h'=>Fr h h' []/\SlF h h' v (mw s):=by
 have hlen:s.data.toList.length=s.size:=Array.length_toList
 rw[aE]
 simp(disch:=omega)only[go_sem]
 refine gv (α:=AV×HP) (s.size+1) (fun j p=>⟨[(0,.str s),(3,p.1),(4,.str (bsL (wdAt s j).2)),(5,.int .i64 j)],[],p.2⟩) (fun j p=>Fr h p.2 []/\SlF h p.2 p.1 (wdAt s j).1) (.nilsl,h) (by simp only[go_sem]<;>rfl) ⟨Fr.refl _ _,.inl ⟨rfl,rfl⟩⟩ fun j p hj hp ih=>?_
 obtain⟨v,h1⟩:=p
 obtain⟨hr,hsl⟩:=hp
 simp only at hr hsl⊢
 have hwl:(wdAt s j).1.length<=10001/\(wdAt s j).2.length<=10001:=by
  have h0:∀k,((s.data.toList.take k).foldl stepWd ([],[])).1.length<=10000/\((s.data.toList.take k).foldl stepWd ([],[])).2.length<=10000:=fun k=>by
   have:=sZ (s.data.toList.take k) ([],[])
   simp only[List.length_nil,List.length_take]at this
   omega
  unfold wdAt
  split
  ·have:=h0 j;omega
  ·have:=h0 s.size
   rw[List.take_of_length_le (by omega)]at this
   simp only[mw,jj,List.length_nil]
   split
   ·omega
   ·simp only[List.length_append,List.length_cons,List.length_nil];omega
 by_cases hjn:j<s.size
 ·have hjl:j<s.data.toList.length:=by omega
  have hb:=oW s j
  have hbe:=jY hjl
  have hsc:=y6 hjl
  by_cases h32:byteAt s j=32
  ·have h32':s.data.toList[j]=32:=UInt8.toNat_inj.1 (by rw[←hbe];exact h32)
   have hend:wdAt s (j+1)=(jj (wdAt s j),[]):=by rw[hsc,stepWd,if_pos h32'];rfl
   by_cases hw:(wdAt s j).2=[]
   ·have e1:bsL (wdAt s j).2=⟨#[]⟩:=by rw[hw];rfl
    have e2:jj (wdAt s j)=(wdAt s j).1:=by rw[jj,if_pos hw]
    rw[e2]at hend
    simp(disch:=omega)only[go_sem,hjn,h32,e1]
    refine ih _ (v,h1) (by omega) ?_ ⟨hr,by rw[hend];exact hsl⟩
    simp only[go_sem,hend];rfl
   ·have e1:¬bsL (wdAt s j).2=⟨#[]⟩:=fun e=>hw (by have:=congrArg (fun z:ByteArray=>z.data.toList) e;simpa[bsL]using this)
    have e2:jj (wdAt s j)=(wdAt s j).1++[bsL (wdAt s j).2]:=by rw[jj,if_neg hw]
    rw[e2]at hend
    generalize wdAt s j=p at hsl hwl hend e1⊢
    obtain⟨ws,w⟩:=p
    simp only at hsl hwl hend e1⊢
    rcases hsl with⟨rfl,hl0⟩|⟨q,rfl,hq1,hq2,hq3⟩
    ·simp(disch:=omega)only[go_sem,hjn,h32,e1]
     refine ih _ (.sl (.obj h1.next) 0 1,h1.nw (.arr 1 tS) (encS [bsL w])) (by omega) ?_ ⟨hr.trans Fr.nw,?_⟩
     ·simp only[go_sem,hend];rfl
     ·rw[hend,hl0]
      exact .inr ⟨h1.next,rfl,hr.next,Nat.lt_succ_self _,d7⟩
    ·simp(disch:=omega)only[go_sem,hjn,h32,e1]
     rw[rO (hl q) hq3 (by omega)]
     simp(disch:=omega)only[go_sem]
     refine ih _ (.sl (.obj h1.next) 0 (ws++[bsL w]).length,(h1.dl q).nw (.arr (ws++[bsL w]).length tS) (encS (ws++[bsL w]))) (by omega) ?_ ⟨(hr.dl hq1).trans Fr.nw,?_⟩
     ·simp only[go_sem,hend];rfl
     ·rw[hend]
      exact .inr ⟨h1.next,rfl,hr.next,Nat.lt_succ_self _,d7 (h:=h1.dl q)⟩
  ·have h32':¬s.data.toList[j]=32:=fun e=>h32 (by rw[hbe,e];rfl)
   have hnx:wdAt s (j+1)=((wdAt s j).1,(wdAt s j).2++[s.data.toList[j]]):=by rw[hsc,stepWd,if_neg h32']
   have ex:ByteArray.extract s j (j+1)=bsL [s.data.toList[j]]:=pZ hjl
   simp(disch:=omega)only[go_sem,hjn,h32,ex]
   refine ih _ (v,h1) (by omega) ?_ ⟨hr,by rw[hnx];exact hsl⟩
   simp only[go_sem,hnx]
 ·by_cases hje:j=s.size
  ·subst hje
   have hend:=AR (s:=s)
   have hlt:(s.size:Int)<=s.size:=Int.le_refl _
   generalize hj':s.size=j at hend hwl hsl ih hjn hlt⊢
   by_cases hw:(wdAt s j).2=[]
   ·have e1:bsL (wdAt s j).2=⟨#[]⟩:=by rw[hw];rfl
    have e2:jj (wdAt s j)=(wdAt s j).1:=by rw[jj,if_pos hw]
    rw[e2]at hend
    simp(disch:=omega)only[go_sem,hjn,hj',e1]
    refine ih _ (v,h1) (by omega) ?_ ⟨hr,by rw[hend];exact hsl⟩
    simp only[go_sem,hend];rfl
   ·have e1:¬bsL (wdAt s j).2=⟨#[]⟩:=fun e=>hw (by have:=congrArg (fun z:ByteArray=>z.data.toList) e;simpa[bsL]using this)
    have e2:jj (wdAt s j)=(wdAt s j).1++[bsL (wdAt s j).2]:=by rw[jj,if_neg hw]
    rw[e2]at hend
    generalize wdAt s j=p at hsl hwl hend e1⊢
    obtain⟨ws,w⟩:=p
    simp only at hsl hwl hend e1⊢
    rcases hsl with⟨rfl,hl0⟩|⟨q,rfl,hq1,hq2,hq3⟩
    ·simp(disch:=omega)only[go_sem,hjn,hj',e1]
     refine ih _ (.sl (.obj h1.next) 0 1,h1.nw (.arr 1 tS) (encS [bsL w])) (by omega) ?_ ⟨hr.trans Fr.nw,?_⟩
     ·simp only[go_sem,hend];rfl
     ·rw[hend,hl0]
      exact .inr ⟨h1.next,rfl,hr.next,Nat.lt_succ_self _,d7⟩
    ·simp(disch:=omega)only[go_sem,hjn,hj',e1]
     rw[rO (hl q) hq3 (by omega)]
     simp(disch:=omega)only[go_sem]
     refine ih _ (.sl (.obj h1.next) 0 (ws++[bsL w]).length,(h1.dl q).nw (.arr (ws++[bsL w]).length tS) (encS (ws++[bsL w]))) (by omega) ?_ ⟨(hr.dl hq1).trans Fr.nw,?_⟩
     ·simp only[go_sem,hend];rfl
     ·rw[hend]
      exact .inr ⟨h1.next,rfl,hr.next,Nat.lt_succ_self _,d7 (h:=h1.dl q)⟩
  ·obtain rfl:j=s.size+1:=by omega
   have:(wdAt s (s.size+1)).1=mw s:=by rw[wdAt,if_neg (by omega)]
   rw[this]at hsl
   have hsv:v.safe=true:=by rcases hsl with⟨rfl,_⟩|⟨q,rfl,_⟩<;>rfl
   simp(disch:=omega)only[go_sem,hsv]
   exact⟨hr,hsl⟩
end
def iC:List UInt8->List UInt8->List (List UInt8)
 | [],w=>[w]
 |c::r,w=>if c=32 then w::iC r []else iC r (w++[c])
theorem lG:∀{a l w:List UInt8},(∀(k:Nat),a[k]?≠some 32)->iC (a++l) w=iC l (w++a)
 | [],l,w,_=>by simp
 |c::a,l,w,h=>by
  have hc:¬c=32:=fun e=>h 0 (by simp[e])
  rw[List.cons_append,iC,if_neg hc,lG fun k=>h (k+1)]
  simp
theorem qc{w:List UInt8}:bsL w=⟨#[]⟩↔w=[]:=
 ⟨fun e=>by have:=congrArg (fun z:ByteArray=>z.data.toList) e;simpa[bsL]using this,fun e=>by rw[e];rfl⟩
theorem wx:∀(n:Nat) (s:Str),s.size<=n->cutB s 32=(iC s.data.toList []).map bsL
 |n,s,hn=>by
  have hlen:s.data.toList.length=s.size:=Array.length_toList
  have hs1:(⟨#[32]⟩:ByteArray).size=1:=rfl
  rcases Lib.indexB_cases s ⟨#[32]⟩with h|⟨i,h,hi⟩
  ·have hno:=Lib.indexByte_none (by rw[←Lib.index_one];exact h:Lib.indexByte s.data.toList 32= -1)
   have e:=lG (l:=[]) (w:=[]) hno
   rw[List.append_nil]at e
   rw[cutB,Lib.countB_miss s _ h,e]
   simp[Lib.splitB,iC,xS]
  ·have h2:=Lib.indexByte_some (by rw[←Lib.index_one];exact h:Lib.indexByte s.data.toList 32=i)
   rw[hs1]at hi
   have hsz:(s.extract (i+1) s.size).size<n:=by
    simp only[ByteArray.size_extract]
    omega
   obtain⟨m,rfl⟩:∃m,n=m+1:=⟨n-1,by omega⟩
   have ih:=wx m (s.extract (i+1) s.size) (by omega)
   have hdrop:(s.extract (i+1) s.size).data.toList=s.data.toList.drop (i+1):=by
    rw[Lib.extract_to_end]
   have htake:s.extract 0 (i+0)=bsL (s.data.toList.take i):=by
    apply ByteArray.ext
    apply Array.toList_inj.1
    simp[bsL,ByteArray.data_extract]
   have hsplit:s.data.toList=s.data.toList.take i++32::s.data.toList.drop (i+1):=by
    have hlt:i<s.data.toList.length:=by omega
    have h3:=h2.1
    rw[List.getElem?_eq_getElem hlt]at h3
    conv=>lhs;rw[←List.take_append_drop i s.data.toList,List.drop_eq_getElem_cons hlt,Option.some.inj h3]
   have hpre:∀(k:Nat),(s.data.toList.take i)[k]?≠some 32:=fun k=>by
    rw[List.getElem?_take]
    split
    ·exact h2.2 k ‹_›
    ·simp
   rw[hdrop]at ih
   have e:=lG (l:=32::s.data.toList.drop (i+1)) (w:=[]) hpre
   rw[←hsplit]at e
   rw[cutB,Lib.countB_hit s ⟨#[32]⟩ i (by rw[hs1];omega) h,Nat.add_comm,Lib.splitB_hit _ _ _ _ i h,htake,e,iC,if_pos rfl,List.map_cons]
   have ih':Lib.splitB ⟨#[32]⟩ 0 (Lib.countB (s.extract (i+1) s.size) ⟨#[32]⟩) (s.extract (i+1) s.size)=_:=ih
   rw[hs1,ih']
   rfl
theorem rp:∀(l:List UInt8) (o:List Str) (w:List UInt8),jj (l.foldl stepWd (o,w))=o++full ((iC l w).map bsL)
 | [],o,w=>by
  by_cases hw:w=[]
  ·simp[jj,iC,full,hw,bsL]
  ·have:¬bsL w=⟨#[]⟩:=fun e=>hw (qc.1 e)
   simp[jj,iC,full,hw,this]
 |c::r,o,w=>by
  rw[List.foldl_cons,iC]
  by_cases hc:c=32
  ·rw[if_pos hc,stepWd,if_pos hc]
   rw[rp r]
   by_cases hw:w=[]
   ·simp[full,hw,bsL]
   ·have:¬bsL w=⟨#[]⟩:=fun e=>hw (qc.1 e)
    simp[full,hw,this]
  ·rw[if_neg hc,stepWd,if_neg hc,rp r]
theorem y4(s:Str):mw s=lineWs s:=by
 rw[mw,rp,lineWs,wx s.size s (Nat.le_refl _)]
 rfl
theorem rg(hj:j<10)(h:txt l 0=txt kindsL j):kindC l=j:=by
 have hd:∀a b:Fin 10,a.val≠b.val->¬txt kindsL a.val=txt kindsL b.val:=by decide
 exact dV (fun i hi=>by rw[h];exact decide_eq_false (hd ⟨j,hj⟩ ⟨i,by omega⟩ (by show j≠i;omega))) (by simp[h]) hj
theorem eK:isW l w n=true↔txt l 0=w/\l.length=1+n:=by simp[isW]
theorem words_at(h1:1<=j)(hj:j<10)(h:txt l 0=txt kindsL j)(hL:(l.length:Int)=manyL.getD j 0):wordsC l=stepC l j:=by
 have hk:=rg hj h
 rw[wordsC,hk,if_neg]
 ·rfl
 ·rw[Int.toNat_natCast]
  omega
section
variable{L:Lf}{l:List Str}
theorem lR{x:SStep}(h:wordsC l=(x,true)):fN L l=(sayL (eQ L x),lifeF L x):=by
 rw[fN,h,if_pos rfl]
theorem A1(hj:j=1\/j=3)(h:txt l 0=txt kindsL j)(hL:l.length=3):fN L l=(sayL (eQ L ⟨j,numC (txt l 1),0,0,txt l 2,⟨#[]⟩,⟨#[]⟩⟩),lifeF L ⟨j,numC (txt l 1),0,0,txt l 2,⟨#[]⟩,⟨#[]⟩⟩):=
 lR (by rcases hj with rfl|rfl<;>rw[words_at (by decide) (by decide) h (by rw[hL];rfl)]<;>simp[stepC,hL])
theorem A0(hj:j=2\/j=4)(h:txt l 0=txt kindsL j)(hL:l.length=5):fN L l=(sayL (eQ L ⟨j,numC (txt l 1),numC (txt l 3),0,txt l 2,txt l 4,⟨#[]⟩⟩),lifeF L ⟨j,numC (txt l 1),numC (txt l 3),0,txt l 2,txt l 4,⟨#[]⟩⟩):=
 lR (by rcases hj with rfl|rfl<;>rw[words_at (by decide) (by decide) h (by rw[hL];rfl)]<;>simp[stepC,hL])
theorem FF(h:txt l 0=txt kindsL 5)(hL:l.length=5)(hm:(cL (txt l 4).data.toList).isSome=true):fN L l=(sayL (eQ L ⟨5,numC (txt l 1),0,numC (txt l 3),txt l 2,⟨#[]⟩,bsL ((cL (txt l 4).data.toList).getD [])⟩),lifeF L ⟨5,numC (txt l 1),0,numC (txt l 3),txt l 2,⟨#[]⟩,bsL ((cL (txt l 4).data.toList).getD [])⟩):=
 lR (by rw[words_at (j:=5) (by decide) (by decide) h (by rw[hL];rfl)];simp[stepC,hL,hm])
theorem FH(h:txt l 0=txt kindsL 6)(hL:l.length=4):fN L l=(sayL (eQ L ⟨6,numC (txt l 1),0,numC (txt l 3),txt l 2,⟨#[]⟩,⟨#[]⟩⟩),lifeF L ⟨6,numC (txt l 1),0,numC (txt l 3),txt l 2,⟨#[]⟩,⟨#[]⟩⟩):=
 lR (by rw[words_at (j:=6) (by decide) (by decide) h (by rw[hL];rfl)];simp[stepC,hL])
theorem FG(h:txt l 0=txt kindsL 7)(hL:l.length=2):fN L l=(sayL (eQ L ⟨7,0,0,numC (txt l 1),⟨#[]⟩,⟨#[]⟩,⟨#[]⟩⟩),lifeF L ⟨7,0,0,numC (txt l 1),⟨#[]⟩,⟨#[]⟩,⟨#[]⟩⟩):=
 lR (by rw[words_at (j:=7) (by decide) (by decide) h (by rw[hL];rfl)];simp[stepC,hL])
theorem AZ(hj:j=8\/j=9)(h:txt l 0=txt kindsL j)(hL:l.length=1):fN L l=(sayL (eQ L ⟨j,0,0,0,⟨#[]⟩,⟨#[]⟩,⟨#[]⟩⟩),lifeF L ⟨j,0,0,0,⟨#[]⟩,⟨#[]⟩,⟨#[]⟩⟩):=
 lR (by rcases hj with rfl|rfl<;>rw[words_at (by decide) (by decide) h (by rw[hL];rfl)]<;>simp[stepC,hL])
theorem AP(h:∀j,1<=j->j<10->isW l (txt kindsL j) ((manyL.getD j 0).toNat-1)=false):(wordsC l).2=false:=by
 rcases pO l with hk|⟨j,hj,hk⟩
 ·rw[wordsC,hk,if_pos (.inl (by decide))]
 ·by_cases h1:1<=j
  ·have hno:=h j h1 hj
   have hw:txt l 0=txt kindsL j:=by
    refine Classical.byContradiction fun hne=>?_
    have hf:∀i,i<kindsL.length->decide (txt l 0=txt kindsL i)=true->kindC l=i:=fun i hi he=>rg hi (of_decide_eq_true he)
    by_cases hex:∃i,i<10/\txt l 0=txt kindsL i
    ·obtain⟨i,hi,he⟩:=hex
     have:=rg hi he
     rw[hk]at this
     have:j=i:=by omega
     subst this
     exact hne he
    ·have:kindC l= -1:=findN_none fun i hi=>decide_eq_false fun he=>hex ⟨i,hi,he⟩
     rw[hk]at this
     omega
   rw[wordsC,hk,if_pos]
   right
   intro hL
   rw[Int.toNat_natCast]at hL
   have hp:∀j:Fin 10,1<=j.val->(manyL.getD j.val 0)=(1+((manyL.getD j.val 0).toNat-1:Nat):Nat):=by decide
   rw[eK.2 ⟨hw,by have:=hp ⟨j,hj⟩ h1;simp only at this;omega⟩]at hno
   exact absurd hno (by decide)
  ·rw[wordsC,hk,if_pos (by left;omega)]
theorem yn(h:(wordsC l).2=false):fN L l=((dP L l).getD (sayL [qn]),L):=by
 rw[fN,h,if_neg (by decide)]
end
def eX(w:List Str)(j:Nat):List UInt8:=[110,97,109,101,115]++(w.take j).flatMap fun s=>32::s.data.toList
theorem Bm(w:List Str):eX w 0=[110,97,109,101,115]:=by simp[eX]
theorem kq{w:List Str}(hj:j<w.length):eX w (j+1)=eX w j++(32::(txt w j).data.toList):=by
 rw[eX,eX,List.take_add_one,List.getElem?_eq_getElem hj,Option.toList_some,List.flatMap_append,iA hj]
 simp
theorem qC(w:List Str):sayL (wNames::w)=eX w w.length++[10]:=by
 rw[sayL,fk,List.map_cons,Lib.join_cons,eX,List.take_length]
 simp only[Lib.joinTail,List.map_map,wNames]
 rw[List.flatMap_def]
 rfl
theorem lq(w:List Str)(j:Nat)(hj:j<=w.length):(eX w j).length+1<=(sayL (wNames::w)).length:=by
 rw[qC,List.length_append,eX,eX,List.take_length,List.length_append,List.length_append]
 have:((w.take j).flatMap fun s=>32::s.data.toList).length<=(w.flatMap fun s=>32::s.data.toList).length:=by
  conv=>rhs;rw[←List.take_append_drop j w,List.flatMap_append,List.length_append]
  omega
 simp only[List.length_cons,List.length_nil]
 omega
section
variable{T:MTb}{cx:Cx}{k:List Item}{kill:List Nat}{r:List MOp}{sl:Slots}{own:Own}{h:HP}{Q:St->Prop}
@[go_sem] theorem G9:W T cx (.ops (⟨some d,.box true aD x,none⟩::r) kill::k) ⟨sl,own,h⟩ Q=WBX T cx aD (St.opd ⟨sl,own,h⟩ x) d r kill k sl own h Q:=o5
end
@[go_sem] theorem JP(n a b:Nat):((AV.sl (.obj n) a b).safe=true)=True:=eq_true rfl
section
variable{T:MTb}{cx:Cx}{k:List Item}{kill:List Nat}{r:List MOp}{sl:Slots}{own:Own}{h:HP}{Q:St->Prop}
theorem Cp{prot:Bool}{cap:AV}{args:List Opd}{d:Option Nat}(hx:St.opd ⟨sl,own,h⟩ x=.func f cap)(hf:T f=some fn)(hp:fn.params=args.length/\fn.nfree=(gt cap).length)
  (hc:Ok T (St.callCx ⟨sl,own,h⟩ cx prot) fn (St.enter (args.map (St.opd ⟨sl,own,h⟩)++gt cap) (h.push cx.lvl own)) fun v' h'=>v'=v/\h'=h.push cx.lvl own)
  (hq:W T cx (.ops r kill::k) (St.setd ⟨sl,own,h⟩ d v) Q):
  W T cx (.ops (⟨d,.callv prot [] x args,none⟩::r) kill::k) ⟨sl,own,h⟩ Q:=by
 refine uB (R:=fun v' h'=>v'=v/\h'=h.push cx.lvl own) (cx':=St.callCx ⟨sl,own,h⟩ cx prot) (hide:=[]) (e:=St.enter (args.map (St.opd ⟨sl,own,h⟩)++gt cap) (h.push cx.lvl own)) (fn:=fn) (d:=d) (k1:=.ops r kill::k) (s1:=⟨sl,own,h⟩) ?_ hc ?_
 ·simp only[next,St.wanted,opCmd,hx,enterCmd,hf,List.length_map,qo]
  rw[if_pos hp]
 ·rintro v' h' ⟨rfl,rfl⟩
  rw[qN];exact hq
theorem Cm{d:Option Nat}{caps:List Opd}{s:St}(hc:caps.all (fun y=>(s.opd y).isLeaf)=true)(hq:W T cx (.ops r kill::k) (s.setd d (.func f (caps.foldr (fun x acc=>.cons (s.opd x) acc) .unit))) Q):
  W T cx (.ops (⟨d,.mkfn f caps,none⟩::r) kill::k) s Q:=by
 rw[gW rfl,evOp]
 simp only[evK,hc,if_true,ax]
 exact hq
end
theorem v7{c:UInt8}:hasB s c=true↔∃k,k<s.size/\byteAt s k=c.toNat:=by
 have hlen:s.data.toList.length=s.size:=Array.length_toList
 unfold hasB
 rw[decide_eq_true_eq]
 constructor
 ·intro h
  obtain⟨o,ho⟩:∃o:Nat,Lib.indexByte s.data.toList c=o:=⟨(Lib.indexByte s.data.toList c).toNat,by omega⟩
  have h1:=(Lib.indexByte_some ho).1
  have hlt:o<s.data.toList.length:=by
   rcases Nat.lt_or_ge o s.data.toList.length with h|h
   ·exact h
   ·rw[List.getElem?_eq_none h]at h1;simp at h1
  rw[List.getElem?_eq_getElem hlt]at h1
  exact⟨o,by omega,by rw[jY hlt,Option.some.inj h1]⟩
 ·rintro⟨k,hk,e⟩
  have hlt:k<s.data.toList.length:=by omega
  have hge:=Lib.indexByte_ge s.data.toList c
  rcases Int.lt_or_le (Lib.indexByte s.data.toList c) 0 with h|h
  ·have:=Lib.indexByte_none (show Lib.indexByte s.data.toList c= -1 by omega) k
   rw[List.getElem?_eq_getElem hlt]at this
   refine absurd (congrArg some (UInt8.toNat_inj.1 ?_)) this
   rw[←jY hlt,e]
  ·exact h
def Ce(ls:List Str):Int:=findN ls.length fun i=>hasB (txt ls i) 10
section
variable{cx:Cx}{h:HP}{d p f c:Nat}{L:Lf}
theorem EB(hv:Txs h cx.lvl v ls)(hn:ls.length<=150)(hb:o2 ls=true):
  Ok ff cx Fn.aA (St.enter [.ptr (.obj d) [] tDesk,v] h) fun v' h'=>v'=.tup (.cons (.str ⟨#[]⟩) (.cons (eH 15 (Ce ls)) .unit))/\h'=h:=by
 have hix:=fun z sl own=>hv.ix (cx:=cx) (kk:=.i64) (z:=z) sl own
 have hlv:=fun z sl own=>hv.lv (cx:=cx) (z:=z) sl own
 have hfg:=fun t=>hv.fg (t:=t)
 have hld:=fun t=>hv.ld (t:=t)
 have hfx:=fun z t=>hv.fgx (t:=t) z
 have hlx:=fun z t=>hv.ldx (t:=t) z
 have hln:=hv.len
 have hL:¬150<(ls.length:Int):=by omega
 rw[aE]
 simp(disch:=omega)only[go_sem,hln,hfg,hld,hL]
 refine cm ls.length (fun j=>⟨[(0,.ptr (.obj d) [] tDesk),(1,v),(5,.ptr (.stk cx.lvl 5) [] iB),(17,v),(18,.int .i64 ls.length),(19,.int .i64 j)],[(5,⟨iB,eH 0 0⟩)],h⟩) (fun j=>∀i,i<j->hasB (txt ls i) 10=false) (by simp only[go_sem]<;>rfl) (fun i hi=>by omega) fun j hj hp ih=>?_
 by_cases hlt:j<ls.length
 ·simp(disch:=omega)only[go_sem,hlt,hix,hlv,hfg,hld,hfx,hlx]
  refine am rfl ⟨rfl,rfl⟩ (by simp only[go_sem];exact kP) ?_
  cases c:hasB (txt ls j) 10 with
  |true=>
   simp(disch:=omega)only[go_sem,c]
   rw[Ce,dV hp c hlt]
  |false=>
   simp(disch:=omega)only[go_sem,c]
   refine ih _ hlt (aJ hp c) ?_
   simp only[go_sem]
 ·exfalso
  obtain rfl:j=ls.length:=by omega
  obtain⟨i,hi,hx⟩:=lH.1 hb
  rw[hp i hi]at hx
  exact absurd hx (by decide)
theorem EA(hv:Txs h cx.lvl v ls)(hn:150<ls.length):
  Ok ff cx Fn.aA (St.enter [.ptr (.obj d) [] tDesk,v] h) fun v' h'=>v'=.tup (.cons (.str ⟨#[]⟩) (.cons (eH 14 (-1)) .unit))/\h'=h:=by
 have hfg:=fun t=>hv.fg (t:=t)
 have hld:=fun t=>hv.ld (t:=t)
 have hln:=hv.len
 have hL:150<(ls.length:Int):=by omega
 rw[aE]
 simp(disch:=omega)only[go_sem,hln,hfg,hld,hL]
def eE(ls:List Str):Int×Int:=if 150<ls.length then(14,-1)else if o2 ls=true then(15,Ce ls)else(0,0)
theorem Au(hv:Txs h cx.lvl v ls)(hn:ls.length<=1000)(hs:∀i,(txt ls i).size<=10000):
  Ok gI cx Fn.bE (St.enter [v] h) fun v' h'=>v'=eH (eE ls).1 (eE ls).2/\h'=h:=by
 have hix:=fun z sl own=>hv.ix (cx:=cx) (kk:=.i64) (z:=z) sl own
 have hlv:=fun z sl own=>hv.lv (cx:=cx) (z:=z) sl own
 have hfg:=fun t=>hv.fg (t:=t)
 have hld:=fun t=>hv.ld (t:=t)
 have hfx:=fun z t=>hv.fgx (t:=t) z
 have hlx:=fun z t=>hv.ldx (t:=t) z
 have hln:=hv.len
 rw[aE]
 simp(disch:=omega)only[go_sem,hln,hfg,hld]
 by_cases c150:150<(ls.length:Int)
 ·simp(disch:=omega)only[go_sem,c150]
  refine am rfl ⟨rfl,rfl⟩ (by simp only[go_sem];exact Fy) ?_
  simp(disch:=omega)only[go_sem,c150]
  have:eE ls=(14,-1):=by rw[eE,if_pos (by omega)]
  rw[this]
 simp(disch:=omega)only[go_sem,c150,hln,hfg,hld]
 refine cm ls.length (fun j=>⟨[(0,v),(2,.ptr (.stk cx.lvl 2) [] iB),(3,.int .i64 j)],[(2,⟨iB,eH 0 0⟩)],h⟩) (fun j=>∀i,i<j->hasB (txt ls i) 10=false) (by simp only[go_sem]<;>rfl) (fun i hi=>by omega) fun j hj hp ih=>?_
 by_cases hlt:j<ls.length
 ·obtain⟨s,es⟩:∃s,txt ls j=s:=⟨_,rfl⟩
  have hsj:=hs j
  rw[es]at hsj
  simp(disch:=omega)only[go_sem,hln,hlt,hfg,hld,hix,hlv,hfx,hlx,es]
  refine cm s.size (fun k=>⟨[(0,v),(2,.ptr (.stk cx.lvl 2) [] iB),(3,.int .i64 j),(4,.int .i64 k)],[(2,⟨iB,eH 0 0⟩)],h⟩) (fun k=>∀i,i<k->¬byteAt s i=10) (by simp only[go_sem]<;>rfl) (fun i hi=>by omega) fun k hk hq ih2=>?_
  by_cases hkt:k<s.size
  ·by_cases h10:byteAt s k=10
   ·have hb:hasB (txt ls j) 10=true:=by rw[es];exact v7.2 ⟨k,hkt,h10⟩
    have hbl:o2 ls=true:=lH.2 ⟨j,hlt,hb⟩
    simp(disch:=omega)only[go_sem,hln,hlt,hfg,hld,hix,hlv,hfx,hlx,es,hkt,h10]
    refine am rfl ⟨rfl,rfl⟩ (by simp only[go_sem];exact Fy) ?_
    simp(disch:=omega)only[go_sem]
    have:eE ls=(15,(j:Int)):=by rw[eE,if_neg (by omega),if_pos hbl,Ce,dV hp hb hlt]
    rw[this]
   ·simp(disch:=omega)only[go_sem,hln,hlt,hfg,hld,hix,hlv,hfx,hlx,es,hkt,h10]
    refine ih2 _ hkt (aJ hq h10) ?_
    simp only[go_sem]
  ·obtain rfl:k=s.size:=by omega
   have hb:hasB (txt ls j) 10=false:=by
    rw[es]
    cases e:hasB s 10 with
    |false=>rfl
    |true=>
     obtain⟨i,hi,hx⟩:=v7.1 e
     exact absurd hx (hq i hi)
   simp(disch:=omega)only[go_sem,hln,hlt,hfg,hld,hix,hlv,hfx,hlx,es]
   refine ih _ hlt (aJ hp hb) ?_
   simp only[go_sem]
 ·obtain rfl:j=ls.length:=by omega
  have hbl:¬o2 ls=true:=fun e=>by
   obtain⟨i,hi,hx⟩:=lH.1 e
   rw[hp i hi]at hx
   exact absurd hx (by decide)
  have:eE ls=(0,0):=by rw[eE,if_neg (by omega),if_neg hbl]
  rw[this]
  simp(disch:=omega)only[go_sem,hln,hfg,hld]
end
structure RK(h0 h:HP)(d e:Nat)(L:Lf)(bs:List UInt8):Prop where
 fr:Fr h0 h [d,e]
 rd:h.look (.obj d)=some ⟨tRD,encRD bs e⟩
 bd:h.look (.obj e)=some ⟨tBed,(bdOf L).enc⟩
 de:¬d=e
 dn:d<h0.next
 en:e<h0.next
@[go_sem] theorem MH(k d:Int)(s:Str):fill aD aD.zero [(0,.int .i64 k),(1,.int .i64 d),(4,.str s)]=some (SStep.enc ⟨k,d,0,0,s,⟨#[]⟩,⟨#[]⟩⟩):=rfl
@[go_sem] theorem MG(k d e:Int)(s t:Str):fill aD aD.zero [(0,.int .i64 k),(1,.int .i64 d),(4,.str s),(2,.int .i64 e),(5,.str t)]=some (SStep.enc ⟨k,d,e,0,s,t,⟨#[]⟩⟩):=rfl
@[go_sem] theorem MF(k d p:Int)(s t:Str):fill aD aD.zero [(0,.int .i64 k),(1,.int .i64 d),(4,.str s),(3,.int .i64 p),(6,.str t)]=some (SStep.enc ⟨k,d,0,p,s,⟨#[]⟩,t⟩):=rfl
@[go_sem] theorem ME(k d p:Int)(s:Str):fill aD aD.zero [(0,.int .i64 k),(1,.int .i64 d),(4,.str s),(3,.int .i64 p)]=some (SStep.enc ⟨k,d,0,p,s,⟨#[]⟩,⟨#[]⟩⟩):=rfl
@[go_sem] theorem MD(k p:Int):fill aD aD.zero [(0,.int .i64 k),(3,.int .i64 p)]=some (SStep.enc ⟨k,0,0,p,⟨#[]⟩,⟨#[]⟩,⟨#[]⟩⟩):=rfl
@[go_sem] theorem MB(k:Int):fill aD aD.zero [(0,.int .i64 k)]=some (SStep.enc ⟨k,0,0,0,⟨#[]⟩,⟨#[]⟩,⟨#[]⟩⟩):=rfl
variable{b:Img}
section
variable{cx:Cx}{h:HP}{d e:Nat}{bs:List UInt8}{L:Lf}
variable{T:MTb}{k:List Item}{kill:List Nat}{r:List MOp}{sl:Slots}{own:Own}{Q:St->Prop}
theorem mj{dd:Option Nat}{a b:Opd}(hx:St.opd ⟨sl,own,h⟩ x=.func 439 (.cons (.ptr (.stk cx.lvl 4) [] tSl) .unit))(ho:own.get 4=some ⟨tSl,v⟩)(ha:St.opd ⟨sl,own,h⟩ a=.str w)(hb:St.opd ⟨sl,own,h⟩ b=.int .i64 n)
  (hv:Txs h cx.lvl v l) (hvs:(tSl.fits v=true)=True) (h0:0<l.length) (hn:n<10)
  (hq:W gI cx (.ops r kill::k) (St.setd ⟨sl,own,h⟩ dd (.bool (isW l w n))) Q):
  W gI cx (.ops (⟨dd,.callv false [] x [a,b],none⟩::r) kill::k) ⟨sl,own,h⟩ Q:=by
 refine Cp (v:=.bool (isW l w n)) hx rfl ⟨rfl,rfl⟩ ?_ hq
 simp only[List.map_cons,List.map_nil,ha,hb]
 exact Hi (i:=.stk cx.lvl 4) (Nat.lt_succ_self _) (by simp[HP.rd,HP.look,HP.push,ho,AV.at]) hv.push hvs h0 hn
theorem Fx{dd:Option Nat}{a:Opd}{b:Bool}(hx:St.opd ⟨sl,own,h⟩ x=.func 438 (.cons (.ptr (.stk cx.lvl 2) [] tP) .unit))(ho:own.get 2=some ⟨tP,.ptr (.obj d) [] tRD⟩)(ha:St.opd ⟨sl,own,h⟩ a=.bool b)
  (hl:HL cx) (hd:h.look (.obj d)=some ⟨tRD,encRD bs e⟩) (hm:bs.length<=1000000)
  (hq:W gI cx (.ops r kill::k) (St.setd ⟨sl,own,h.ob d tRD (encRD (bs++sayL [boolS b]) e)⟩ dd (.tup .unit)) Q):
  W gI cx (.ops (⟨dd,.callv false [] x [a],none⟩::r) kill::k) ⟨sl,own,h⟩ Q:=by
 have hc:=Ep (cx:=St.callCx ⟨sl,own,h⟩ cx false) (h:=h.push cx.lvl own) (b:=b) (i:=.stk cx.lvl 2) (d:=d) (e:=e) (bs:=bs) (by exact hl) (Nat.lt_succ_self _) (by simp[HP.rd,HP.look,HP.push,ho,AV.at]) hd hm
 refine uB (R:=fun v' h'=>v'=.tup .unit/\h'=(h.ob d tRD (encRD (bs++sayL [boolS b]) e)).push cx.lvl own) (cx':=St.callCx ⟨sl,own,h⟩ cx false) (hide:=[]) (e:=St.enter ([a].map (St.opd ⟨sl,own,h⟩)++[.ptr (.stk cx.lvl 2) [] tP]) (h.push cx.lvl own)) (fn:=Fn.dE) (d:=dd) (k1:=.ops r kill::k) (s1:=⟨sl,own,h⟩) ?_ ?_ ?_
 ·simp only[next,St.wanted,opCmd,hx,enterCmd,List.length_map,qo,gt]
  rfl
 ·simp only[List.map_cons,List.map_nil,ha]
  exact hc
 ·rintro v' h' ⟨rfl,rfl⟩
  have hs:(h.ob d tRD (encRD (bs++sayL [boolS b]) e)).stk=h.stk:=rfl
  generalize h.ob d tRD (encRD (bs++sayL [boolS b]) e)=h1 at hs hq⊢
  have:St.pop ⟨sl,own,h⟩ cx.lvl [] (h1.push cx.lvl own)=⟨sl,own,h1⟩:=by
   simp only[St.pop,HP.pop,HP.push,Own.unveil,if_true]
   congr 1
   cases h1
   simp only at hs
   subst hs
   simp only[HP.mk.injEq,and_true]
   funext l
   by_cases hl:l=cx.lvl<;>simp[hl]
  rw[this]
  exact hq
theorem RK.stepped{cs:List UInt8}(hF:Fr h h1 [])(hde:¬d=e)(hdn:d<h.next)(hen:e<h.next):RK h ((h1.ob e tBed (bdOf L).enc).ob d tRD (encRD cs e)) d e L cs:=
 ⟨((hF.mono (by simp)).trans (Fr.ob (by simp))).trans (Fr.ob (by simp)),gm,by rw[b0 (fun q=>hde q.symm)];exact gm,hde,hdn,hen⟩
theorem RK.said{cs:List UInt8}(hF:Fr h h1 [])(hbd:h1.look (.obj e)=some ⟨tBed,(bdOf L).enc⟩)(hde:¬d=e)(hdn:d<h.next)(hen:e<h.next):RK h (h1.ob d tRD (encRD cs e)) d e L cs:=
 ⟨(hF.mono (by simp)).trans (Fr.ob (by simp)),gm,by rw[b0 (fun q=>hde q.symm)];exact hbd,hde,hdn,hen⟩
def inoAt(a b:Img)(k:Nat):Nat->Img
 |0=>b
 |j+1=>(inoAt a b k j).setIno (k+j) (a.ino (k+j))
theorem zp(b:Img)(n:Nat):b.setIno n (b.ino n)=b:=by
 cases b with
 |mk i d x=>
  simp only[Img.setIno,Img.mk.injEq,and_true]
  apply Vector.ext
  intro j hj
  rw[Vector.getElem_setIfInBounds]
  split
  ·rename_i q;subst q;simp[Img.ino,hj]
  ·rfl
theorem zq(b:Img)(n:Nat):b.setDat n (b.dat n)=b:=by
 cases b with
 |mk i d x=>
  simp only[Img.setDat,Img.mk.injEq,true_and]
  apply Vector.ext
  intro j hj
  rw[Vector.getElem_setIfInBounds]
  split
  ·rename_i q;subst q;simp[Img.dat,hj]
  ·rfl
theorem sV(a b:Img)(k:Nat):∀j i,(inoAt a b k j).ino i=if k<=i/\i<k+j/\i<8 then a.ino i else b.ino i
 |0,i=>by rw[if_neg (by omega)];rfl
 |j+1,i=>by
  rw[inoAt,g8,sV a b k j i]
  by_cases h1:k+j=i/\i<8
  ·rw[if_pos h1,if_pos (by omega),h1.1]
  ·rw[if_neg h1]
   by_cases h2:k<=i/\i<k+j/\i<8
   ·rw[if_pos h2,if_pos (by omega)]
   ·rw[if_neg h2,if_neg (by omega)]
theorem ri{a b:Img}{k:Nat}:∀j,(∀i,i<j->a.ino (k+i)=b.ino (k+i))->inoAt a b k j=b
 |0,_=>rfl
 |j+1,h=>by
  rw[inoAt,ri j fun i hi=>h i (by omega),h j (by omega),zp]
theorem Ov{a:Img}{x:Int}{k:Nat}(hk:k<=4)(e:cj x=(fX,(k:Int))):decide (inoAt a b k 4=b)= !dirty a b x:=by
 rw[ut e,Bool.eq_iff_iff,decide_eq_true_eq,Bool.not_eq_true',anyN_false]
 constructor
 ·intro h i hi
  have:=sV a b k 4 (k+i)
  rw[h,if_pos (by omega)]at this
  simp[this]
 ·intro h
  exact ri 4 fun i hi=>by have:=h i hi;simpa using this
theorem Ow{a:Img}{x:Int}(hn:n<3)(e:cj x=(m8,(n:Int))):decide (Img.mk b.inode (b.dir.set n (a.dir[n]'hn) hn) b.data=b)= !dirty a b x:=by
 rw[yI e,←Bc a b hn,decide_eq_decide]
 constructor
 ·intro h
  have:=congrArg (fun z:Img=>z.dir[n]'hn) h
  simpa using this
 ·intro h
  rw[h]
  cases b
  simp
theorem Ox{a:Img}{x:Int}(hn:n<9)(e:cj x=(jw,(n:Int))):decide (b.setDat n (a.dat n)=b)= !dirty a b x:=by
 rw[yJ e,Bool.not_not,decide_eq_decide]
 constructor
 ·intro h
  have:(b.setDat n (a.dat n)).dat n=b.dat n:=by rw[h]
  rw[kI,if_pos ⟨rfl,hn⟩]at this
  exact this
 ·intro h
  rw[h,zq]
theorem Hp(hs:(⟨sl,own,h1⟩:St).keep [2,15,16] [2]=⟨[(2,.ptr (.stk cx.lvl 2) [] tP),(15,.str (bsL (dirtyT L 0))),(16,.int .i64 0)],[(2,⟨tP,.ptr (.obj d) [] tRD⟩)],h1⟩)
  (hF1:Fr h h1 []) (hbd1:h1.look (.obj e)=some ⟨tBed,(bdOf L).enc⟩) (hrd1:h1.look (.obj d)=some ⟨tRD,encRD bs e⟩) (hde:¬d=e) (hdn:d<h.next) (hen:e<h.next) (hl:HL cx) (hm:bs.length<=1000000):
  W gI cx [.code (.loop [2,15,16] [2] (.seq (.seq (.reg false Fn.ae.r52 [293]) (.cond (.s 294) .skip (.exit 3))) (.seq (.block 4 (.seq (.reg false Fn.ae.r54 [297,298,299,300,301,302,303]) (.seq (.reg false Fn.ae.r55 [304,305,306,307,308]) (.seq (.seq (.reg false Fn.ae.r56 [18]) (.block 5 (.seq (.reg false Fn.ae.r58 [324]) (.cond (.s 323) (.seq (.reg false Fn.ae.r59 []) (.block 6 (.loop [2,15,16,17,19,20] [2,17] (.seq (.seq (.reg false Fn.ae.r60 [325]) (.cond (.s 326) .skip (.exit 6))) (.seq (.block 7 (.reg false Fn.ae.r62 [329,330,331,332,333,334,335,336,337,338,339,340,341,342,343,344,345])) (.reg false Fn.ae.r61 [327,328])))))) (.seq (.reg false Fn.ae.r63 [309,347]) (.cond (.s 346) (.reg false Fn.ae.r64 [19,348,349,350,351,352,353,354,355,356,357,358,359,360]) (.reg false Fn.ae.r57 [19,310,311,312,313,314,315,316,317,318,319,320,321,322]))))))) (.seq (.reg true Fn.ae.r65 [17,361,362,363,364,365,366,367,368]) (.cond (.s 369) (.reg false Fn.ae.r66 [370,371,372,373,374]) .skip)))))) (.reg false Fn.ae.r53 [295,296])))),
   .inBlock 3,.code (.reg false Fn.ae.r67 [2,15,375,376,377]),.inBlock 0] ⟨sl,own,h1⟩ fun s=>RK h s.hp d e L (bs++sayL [bsL (dirtyT L 14)]):=by
 have eN:(bdOf L).now=L.fl.now:=rfl
 have eD:(bdOf L).disk=L.fl.disk:=rfl
 refine fo 14 (fun j=>⟨[(2,.ptr (.stk cx.lvl 2) [] tP),(15,.str (bsL (dirtyT L j))),(16,.int .i64 j)],[(2,⟨tP,.ptr (.obj d) [] tRD⟩)],h1⟩) hs fun j hj ih=>?_
 have hdl:=kH L j hj
 by_cases hlt:j<14
 rotate_left
 ·obtain rfl:j=14:=by omega
  simp(disch:=omega)only[go_sem]
  refine bK (v:=.tup .unit) (h1.ob d tRD (encRD (bs++(dirtyT L 14++[10])) e)) rfl ⟨rfl,rfl⟩ rfl (by simp only[go_sem];exact ge (s:=dirtyT L 14) (bs:=bs) (by exact hl) (by simp only[go_sem,hrd1]) (by omega)) ?_
  simp(disch:=omega)only[go_sem]
  rw[show sayL [bsL (dirtyT L 14)]=dirtyT L 14++[10]by simp[sayL,fk,Lib.join,bsL]]
  exact RK.said hF1 hbd1 hde hdn hen
 simp(disch:=omega)only[go_sem,hlt,hrd1,hbd1,eD]
 refine am rfl ⟨rfl,rfl⟩ (by simp only[go_sem];exact upW (upV (upT (upE (up (rV)))))) ?_
 simp(disch:=omega)only[go_sem]

 obtain⟨k,hk,e'⟩|⟨k,hk,e'⟩|⟨k,hk,e'⟩|e':=fH (j:Int)
 ·simp(disch:=omega)only[go_sem,e',hrd1,hbd1,eN]
  refine fo 4 (fun i=>⟨[(2,.ptr (.stk cx.lvl 2) [] tP),(15,.str (bsL (dirtyT L j))),(16,.int .i64 j),(17,.ptr (.stk cx.lvl 17) [] ac),(19,.int .i64 k),(20,.int .i64 i)],[(2,⟨tP,.ptr (.obj d) [] tRD⟩),(17,⟨ac,(inoAt L.fl.now L.fl.disk k i).enc⟩)],h1⟩) (by simp only[go_sem]<;>rfl) fun i hi ih2=>?_
  by_cases h4:i<4
  ·simp(disch:=omega)only[go_sem,h4,hrd1,hbd1,eN]
   refine ih2 _ h4 ?_
   simp only[go_sem,inoAt]
  ·obtain rfl:i=4:=by omega
   simp(disch:=omega)only[go_sem,hrd1,hbd1,eD]
   rw[Ov hk e',Bool.not_not]
   cases cd:dirty L.fl.now L.fl.disk j with
   |true=>
    simp(disch:=omega)only[go_sem,cd]
    refine am rfl ⟨rfl,rfl⟩ (by simp only[go_sem];exact gk (cP (n:=(j:Int)) (by omega) (by omega))) ?_
    have hnl:=cT (cP (n:=(j:Int)) (by omega) (by omega))
    have ea1:evStr .add ⟨#[32]⟩ (bsL (bz j))=some (.str (bsL ([32]++bz j))):=cD (a:=[32]) (by simp;omega)
    have ea2:evStr .add (bsL (dirtyT L j)) (bsL ([32]++bz j))=some (.str (bsL (dirtyT L j++([32]++bz j)))):=cD (by simp;omega)
    simp only[List.cons_append,List.nil_append]at ea1 ea2
    simp(disch:=omega)only[go_sem,ea1,ea2]
    refine ih _ hlt ?_
    simp only[go_sem,dirtyT,cd,if_true]
   |false=>
    simp(disch:=omega)only[go_sem,cd]
    refine ih _ hlt ?_
    simp only[go_sem,dirtyT,cd,Bool.false_eq_true,if_false]
 ·simp(disch:=omega)only[go_sem,e',hrd1,hbd1,eN,eD]
  rw[Ow hk e',Bool.not_not]
  cases cd:dirty L.fl.now L.fl.disk j with
  |true=>
   simp(disch:=omega)only[go_sem,cd]
   refine am rfl ⟨rfl,rfl⟩ (by simp only[go_sem];exact gk (cP (n:=(j:Int)) (by omega) (by omega))) ?_
   have hnl:=cT (cP (n:=(j:Int)) (by omega) (by omega))
   have ea1:evStr .add ⟨#[32]⟩ (bsL (bz j))=some (.str (bsL ([32]++bz j))):=cD (a:=[32]) (by simp;omega)
   have ea2:evStr .add (bsL (dirtyT L j)) (bsL ([32]++bz j))=some (.str (bsL (dirtyT L j++([32]++bz j)))):=cD (by simp;omega)
   simp only[List.cons_append,List.nil_append]at ea1 ea2
   simp(disch:=omega)only[go_sem,ea1,ea2]
   refine ih _ hlt ?_
   simp only[go_sem,dirtyT,cd,if_true]
  |false=>
   simp(disch:=omega)only[go_sem,cd]
   refine ih _ hlt ?_
   simp only[go_sem,dirtyT,cd,Bool.false_eq_true,if_false]
 ·simp(disch:=omega)only[go_sem,e',hrd1,hbd1,eN,eD]
  rw[Ox hk e',Bool.not_not]
  cases cd:dirty L.fl.now L.fl.disk j with
  |true=>
   simp(disch:=omega)only[go_sem,cd]
   refine am rfl ⟨rfl,rfl⟩ (by simp only[go_sem];exact gk (cP (n:=(j:Int)) (by omega) (by omega))) ?_
   have hnl:=cT (cP (n:=(j:Int)) (by omega) (by omega))
   have ea1:evStr .add ⟨#[32]⟩ (bsL (bz j))=some (.str (bsL ([32]++bz j))):=cD (a:=[32]) (by simp;omega)
   have ea2:evStr .add (bsL (dirtyT L j)) (bsL ([32]++bz j))=some (.str (bsL (dirtyT L j++([32]++bz j)))):=cD (by simp;omega)
   simp only[List.cons_append,List.nil_append]at ea1 ea2
   simp(disch:=omega)only[go_sem,ea1,ea2]
   refine ih _ hlt ?_
   simp only[go_sem,dirtyT,cd,if_true]
  |false=>
   simp(disch:=omega)only[go_sem,cd]
   refine ih _ hlt ?_
   simp only[go_sem,dirtyT,cd,Bool.false_eq_true,if_false]
 ·exfalso
  have:∀j:Fin 14,¬(cj j.val).1=kT:=by decide
  exact this ⟨j,hlt⟩ (by rw[e'])
theorem Ed(h:txt l 0=txt kindsL 5):(dP L l).getD (sayL [qn])=[119,104,97,116]++[10]:=by
 have hk:txt l 0=⟨#[112,117,116]⟩:=h
 have:dP L l=none:=by simp[dP,hk,fA,fB,fy,fx,fC,d8,dR]
 rw[this]
 rfl
theorem CG(hl:HL cx)(hR:RK h h d e L bs)(hi:LTight L)(hs:s.size<=10000)(hm:bs.length<=600000):
  Ok gI cx Fn.ae (St.enter [.ptr (.obj d) [] tRD,.str s] h) fun v h'=>v=.tup .unit/\RK h h' d e (gf L s).2 (bs++(gf L s).1):=by
 obtain⟨_,hrd,hbd,hde,hdn,hen⟩:=hR
 rw[aE]
 simp(disch:=omega)only[go_sem]
 refine eY (S:=[]) (R:=fun v h'=>SlF h h' v (mw s)) rfl ⟨rfl,rfl⟩ (by simp only[go_sem];exact As (by exact hl) hs) (fun v h1 e=>e) ?_
 rintro v h1 hF1 hsl
 rw[y4]at hsl
 have hv:Txs h1 cx.lvl v (lineWs s):=hsl.txs
 have hvs:(tSl.fits v=true)=True:=eq_true (by rcases hsl with⟨rfl,_⟩|⟨q,rfl,_⟩<;>rfl)
 have hno:∀S,(∀q∈S,q<h.next)->∀h2,Fr h1 h2 S->Txs h2 cx.lvl v (lineWs s):=fun S hS h2 hF=>by
  rcases hsl with⟨rfl,e0⟩|⟨q,rfl,q1,q2,q3⟩
  ·exact .inl ⟨.inl rfl,e0⟩
  ·exact hv.frq hF q2 fun hq=>absurd (hS q hq) (by omega)
 have hln:=hv.len
 have hfg:=fun t=>hv.fg (t:=t)
 have hld:=fun t=>hv.ld (t:=t)
 have hsz:∀i,(txt (lineWs s) i).size<=10000:=uN hs
 have hrd1:h1.look (.obj d)=some ⟨tRD,encRD bs e⟩:=hF1.look hdn (by simp) hrd
 have hbd1:h1.look (.obj e)=some ⟨tBed,(bdOf L).enc⟩:=hF1.look hen (by simp) hbd
 simp(disch:=omega)only[go_sem,hln,hvs,hfg,hld]
 by_cases h0:(lineWs s).length=0
 ·simp(disch:=omega)only[go_sem,h0]
  have:gf L s=([],L):=by rw[gf,if_pos (List.eq_nil_of_length_eq_zero h0)]
  rw[this,List.append_nil]
  exact⟨hF1.mono (by simp),hrd1,hbd1,hde,hdn,hen⟩
 have eline:gf L s=fN L (lineWs s):=by rw[gf,if_neg (fun q=>h0 (by rw[q];rfl))]
 rw[eline]
 have hpos:0<(lineWs s).length:=by omega
 have hix:=fun z sl own=>hv.ix (cx:=cx) (kk:=.i64) (z:=z) sl own
 have hlv:=fun z sl own=>hv.lv (cx:=cx) (z:=z) sl own
 have hfx:=fun z t=>hv.fgx (t:=t) z
 have hlx:=fun z t=>hv.ldx (t:=t) z
 generalize lineWs s=l at hv hsz h0 hpos hix hlv hfx hlx hln hno⊢
 have hsz4:∀i,(txt l i).data.toList.length<=10000:=fun i=>by rw[show(txt l i).data.toList.length=(txt l i).size from Array.length_toList];exact hsz i
 simp(disch:=omega)only[go_sem,h0]
 refine Cm (by simp only[go_sem];rfl) ?_
 simp(disch:=omega)only[go_sem,List.foldr_cons,List.foldr_nil]
 refine Cm (by simp only[go_sem];rfl) ?_
 simp(disch:=omega)only[go_sem,List.foldr_cons,List.foldr_nil]
 refine mj (w:=⟨#[109,97,107,101]⟩) (n:=2) (l:=l) (by simp only[go_sem]) (by simp only[go_sem]) (by simp only[go_sem]) (by simp only[go_sem]) hv hvs hpos (by decide) ?_
 cases c0:isW l ⟨#[109,97,107,101]⟩ 2 with
 |true=>
  obtain⟨hw,hL⟩:=eK.1 c0
  have hp1:(l.length:Int)=3:=by omega
  simp(disch:=omega)only[go_sem,c0,hp1,hix,hlv,hfx,hlx,hfg,hld,hvs,hln]
  refine am rfl ⟨rfl,rfl⟩ (by simp only[go_sem];exact dJ (Nat.le_trans (hsz 1) (by decide))) ?_
  simp(disch:=omega)only[go_sem,hp1,hix,hlv,hfx,hlx,hfg,hld,hvs,hln]
  have hx:SStep.ok ⟨1,numC (txt l 1),0,0,txt l 2,⟨#[]⟩,⟨#[]⟩⟩:=⟨by first|exact Nat.zero_le _|exact Nat.le_trans (hsz _) (by decide),by first|exact Nat.zero_le _|exact Nat.le_trans (hsz _) (by decide),Nat.zero_le _⟩
  refine bK (v:=.tup .unit) ((h1.ob e tBed (bdOf (lifeF L ⟨1,numC (txt l 1),0,0,txt l 2,⟨#[]⟩,⟨#[]⟩⟩)).enc).ob d tRD (encRD (bs++sayL (eQ L ⟨1,numC (txt l 1),0,0,txt l 2,⟨#[]⟩,⟨#[]⟩⟩)) e)) rfl ⟨rfl,rfl⟩ rfl (by simp only[go_sem];exact gY (L:=L) (x:=⟨1,numC (txt l 1),0,0,txt l 2,⟨#[]⟩,⟨#[]⟩⟩) (by exact hl) (by simp only[go_sem,hrd1]) (by simp only[go_sem,hbd1]) hde hi.inv hx (by omega) (ez L _)) ?_
  simp(disch:=omega)only[go_sem]
  rw[A1 (L:=L) (j:=1) (by decide) hw hL]
  exact RK.stepped hF1 hde hdn hen
 |false=>
 simp(disch:=omega)only[go_sem,c0]
 refine mj (w:=⟨#[117,110,108,105,110,107]⟩) (n:=2) (l:=l) (by simp only[go_sem]) (by simp only[go_sem]) (by simp only[go_sem]) (by simp only[go_sem]) hv hvs hpos (by decide) ?_
 cases c1:isW l ⟨#[117,110,108,105,110,107]⟩ 2 with
 |true=>
  obtain⟨hw,hL⟩:=eK.1 c1
  have hp1:(l.length:Int)=3:=by omega
  simp(disch:=omega)only[go_sem,c1,hp1,hix,hlv,hfx,hlx,hfg,hld,hvs,hln]
  refine am rfl ⟨rfl,rfl⟩ (by simp only[go_sem];exact dJ (Nat.le_trans (hsz 1) (by decide))) ?_
  simp(disch:=omega)only[go_sem,hp1,hix,hlv,hfx,hlx,hfg,hld,hvs,hln]
  have hx:SStep.ok ⟨3,numC (txt l 1),0,0,txt l 2,⟨#[]⟩,⟨#[]⟩⟩:=⟨by first|exact Nat.zero_le _|exact Nat.le_trans (hsz _) (by decide),by first|exact Nat.zero_le _|exact Nat.le_trans (hsz _) (by decide),Nat.zero_le _⟩
  refine bK (v:=.tup .unit) ((h1.ob e tBed (bdOf (lifeF L ⟨3,numC (txt l 1),0,0,txt l 2,⟨#[]⟩,⟨#[]⟩⟩)).enc).ob d tRD (encRD (bs++sayL (eQ L ⟨3,numC (txt l 1),0,0,txt l 2,⟨#[]⟩,⟨#[]⟩⟩)) e)) rfl ⟨rfl,rfl⟩ rfl (by simp only[go_sem];exact gY (L:=L) (x:=⟨3,numC (txt l 1),0,0,txt l 2,⟨#[]⟩,⟨#[]⟩⟩) (by exact hl) (by simp only[go_sem,hrd1]) (by simp only[go_sem,hbd1]) hde hi.inv hx (by omega) (ez L _)) ?_
  simp(disch:=omega)only[go_sem]
  rw[A1 (L:=L) (j:=3) (by decide) hw hL]
  exact RK.stepped hF1 hde hdn hen
 |false=>
 simp(disch:=omega)only[go_sem,c1]
 refine mj (w:=⟨#[108,105,110,107]⟩) (n:=4) (l:=l) (by simp only[go_sem]) (by simp only[go_sem]) (by simp only[go_sem]) (by simp only[go_sem]) hv hvs hpos (by decide) ?_
 cases c2:isW l ⟨#[108,105,110,107]⟩ 4 with
 |true=>
  obtain⟨hw,hL⟩:=eK.1 c2
  have hp1:(l.length:Int)=5:=by omega
  simp(disch:=omega)only[go_sem,c2,hp1,hix,hlv,hfx,hlx,hfg,hld,hvs,hln]
  refine am rfl ⟨rfl,rfl⟩ (by simp only[go_sem];exact dJ (Nat.le_trans (hsz 1) (by decide))) ?_
  simp(disch:=omega)only[go_sem,hp1,hix,hlv,hfx,hlx,hfg,hld,hvs,hln]
  refine am rfl ⟨rfl,rfl⟩ (by simp only[go_sem];exact dJ (Nat.le_trans (hsz 3) (by decide))) ?_
  simp(disch:=omega)only[go_sem,hp1,hix,hlv,hfx,hlx,hfg,hld,hvs,hln]
  have hx:SStep.ok ⟨2,numC (txt l 1),numC (txt l 3),0,txt l 2,txt l 4,⟨#[]⟩⟩:=⟨by first|exact Nat.zero_le _|exact Nat.le_trans (hsz _) (by decide),by first|exact Nat.zero_le _|exact Nat.le_trans (hsz _) (by decide),Nat.zero_le _⟩
  refine bK (v:=.tup .unit) ((h1.ob e tBed (bdOf (lifeF L ⟨2,numC (txt l 1),numC (txt l 3),0,txt l 2,txt l 4,⟨#[]⟩⟩)).enc).ob d tRD (encRD (bs++sayL (eQ L ⟨2,numC (txt l 1),numC (txt l 3),0,txt l 2,txt l 4,⟨#[]⟩⟩)) e)) rfl ⟨rfl,rfl⟩ rfl (by simp only[go_sem];exact gY (L:=L) (x:=⟨2,numC (txt l 1),numC (txt l 3),0,txt l 2,txt l 4,⟨#[]⟩⟩) (by exact hl) (by simp only[go_sem,hrd1]) (by simp only[go_sem,hbd1]) hde hi.inv hx (by omega) (ez L _)) ?_
  simp(disch:=omega)only[go_sem]
  rw[A0 (L:=L) (j:=2) (by decide) hw hL]
  exact RK.stepped hF1 hde hdn hen
 |false=>
 simp(disch:=omega)only[go_sem,c2]
 refine mj (w:=⟨#[114,101,110,97,109,101]⟩) (n:=4) (l:=l) (by simp only[go_sem]) (by simp only[go_sem]) (by simp only[go_sem]) (by simp only[go_sem]) hv hvs hpos (by decide) ?_
 cases c3:isW l ⟨#[114,101,110,97,109,101]⟩ 4 with
 |true=>
  obtain⟨hw,hL⟩:=eK.1 c3
  have hp1:(l.length:Int)=5:=by omega
  simp(disch:=omega)only[go_sem,c3,hp1,hix,hlv,hfx,hlx,hfg,hld,hvs,hln]
  refine am rfl ⟨rfl,rfl⟩ (by simp only[go_sem];exact dJ (Nat.le_trans (hsz 1) (by decide))) ?_
  simp(disch:=omega)only[go_sem,hp1,hix,hlv,hfx,hlx,hfg,hld,hvs,hln]
  refine am rfl ⟨rfl,rfl⟩ (by simp only[go_sem];exact dJ (Nat.le_trans (hsz 3) (by decide))) ?_
  simp(disch:=omega)only[go_sem,hp1,hix,hlv,hfx,hlx,hfg,hld,hvs,hln]
  have hx:SStep.ok ⟨4,numC (txt l 1),numC (txt l 3),0,txt l 2,txt l 4,⟨#[]⟩⟩:=⟨by first|exact Nat.zero_le _|exact Nat.le_trans (hsz _) (by decide),by first|exact Nat.zero_le _|exact Nat.le_trans (hsz _) (by decide),Nat.zero_le _⟩
  refine bK (v:=.tup .unit) ((h1.ob e tBed (bdOf (lifeF L ⟨4,numC (txt l 1),numC (txt l 3),0,txt l 2,txt l 4,⟨#[]⟩⟩)).enc).ob d tRD (encRD (bs++sayL (eQ L ⟨4,numC (txt l 1),numC (txt l 3),0,txt l 2,txt l 4,⟨#[]⟩⟩)) e)) rfl ⟨rfl,rfl⟩ rfl (by simp only[go_sem];exact gY (L:=L) (x:=⟨4,numC (txt l 1),numC (txt l 3),0,txt l 2,txt l 4,⟨#[]⟩⟩) (by exact hl) (by simp only[go_sem,hrd1]) (by simp only[go_sem,hbd1]) hde hi.inv hx (by omega) (ez L _)) ?_
  simp(disch:=omega)only[go_sem]
  rw[A0 (L:=L) (j:=4) (by decide) hw hL]
  exact RK.stepped hF1 hde hdn hen
 |false=>
 simp(disch:=omega)only[go_sem,c3]
 refine mj (w:=⟨#[112,117,116]⟩) (n:=4) (l:=l) (by simp only[go_sem]) (by simp only[go_sem]) (by simp only[go_sem]) (by simp only[go_sem]) hv hvs hpos (by decide) ?_
 cases c4:isW l ⟨#[112,117,116]⟩ 4 with
 |true=>
  obtain⟨hw,hL⟩:=eK.1 c4
  have hp1:(l.length:Int)=5:=by omega
  simp(disch:=omega)only[go_sem,c4,hp1,hix,hlv,hfx,hlx,hfg,hld,hvs,hln]
  refine am rfl ⟨rfl,rfl⟩ (by simp only[go_sem];exact upW (upV (CK (l:=(txt l 4).data.toList) (hsz4 4)))) ?_
  cases hme:(cL (txt l 4).data.toList).isSome with
  |false=>
   simp(disch:=omega)only[go_sem,qY,hme,hp1,hix,hlv,hfx,hlx,hfg,hld,hvs,hln]
   refine bK (v:=.tup .unit) (h1.ob d tRD (encRD (bs++([119,104,97,116]++[10])) e)) rfl ⟨rfl,rfl⟩ rfl (by simp only[go_sem];exact ge (s:=[119,104,97,116]) (bs:=bs) (by exact hl) (by simp only[go_sem,hrd1]) (by simp;omega)) ?_
   simp(disch:=omega)only[go_sem]
   rw[yn (by rw[words_at (j:=5) (by decide) (by decide) hw (by rw[hL];rfl)];simp[stepC,hL,hme]),Ed hw]
   exact RK.said hF1 hbd1 hde hdn hen
  |true=>
   simp(disch:=omega)only[go_sem,qY,hme,hp1,hix,hlv,hfx,hlx,hfg,hld,hvs,hln]
   refine am rfl ⟨rfl,rfl⟩ (by simp only[go_sem];exact dJ (Nat.le_trans (hsz 1) (by decide))) ?_
   simp(disch:=omega)only[go_sem,hp1,hix,hlv,hfx,hlx,hfg,hld,hvs,hln]
   refine am rfl ⟨rfl,rfl⟩ (by simp only[go_sem];exact dJ (Nat.le_trans (hsz 3) (by decide))) ?_
   simp(disch:=omega)only[go_sem,hp1,hix,hlv,hfx,hlx,hfg,hld,hvs,hln]
   have hx:SStep.ok ⟨5,numC (txt l 1),0,numC (txt l 3),txt l 2,⟨#[]⟩,bsL ((cL (txt l 4).data.toList).getD [])⟩:=⟨Nat.le_trans (hsz _) (by decide),Nat.zero_le _,by
    rw[dm]
    have:=sK (l:=(txt l 4).data.toList)
    have:=hsz4 4
    omega⟩
   refine bK (v:=.tup .unit) ((h1.ob e tBed (bdOf (lifeF L ⟨5,numC (txt l 1),0,numC (txt l 3),txt l 2,⟨#[]⟩,bsL ((cL (txt l 4).data.toList).getD [])⟩)).enc).ob d tRD (encRD (bs++sayL (eQ L ⟨5,numC (txt l 1),0,numC (txt l 3),txt l 2,⟨#[]⟩,bsL ((cL (txt l 4).data.toList).getD [])⟩)) e)) rfl ⟨rfl,rfl⟩ rfl (by simp only[go_sem];exact gY (L:=L) (x:=⟨5,numC (txt l 1),0,numC (txt l 3),txt l 2,⟨#[]⟩,bsL ((cL (txt l 4).data.toList).getD [])⟩) (by exact hl) (by simp only[go_sem,hrd1]) (by simp only[go_sem,hbd1]) hde hi.inv hx (by omega) (ez L _)) ?_
   simp(disch:=omega)only[go_sem]
   rw[FF (L:=L) hw hL hme]
   exact RK.stepped hF1 hde hdn hen
 |false=>
 simp(disch:=omega)only[go_sem,c4]
 refine mj (w:=⟨#[99,117,116]⟩) (n:=3) (l:=l) (by simp only[go_sem]) (by simp only[go_sem]) (by simp only[go_sem]) (by simp only[go_sem]) hv hvs hpos (by decide) ?_
 cases c5:isW l ⟨#[99,117,116]⟩ 3 with
 |true=>
  obtain⟨hw,hL⟩:=eK.1 c5
  have hp1:(l.length:Int)=4:=by omega
  simp(disch:=omega)only[go_sem,c5,hp1,hix,hlv,hfx,hlx,hfg,hld,hvs,hln]
  refine am rfl ⟨rfl,rfl⟩ (by simp only[go_sem];exact dJ (Nat.le_trans (hsz 1) (by decide))) ?_
  simp(disch:=omega)only[go_sem,hp1,hix,hlv,hfx,hlx,hfg,hld,hvs,hln]
  refine am rfl ⟨rfl,rfl⟩ (by simp only[go_sem];exact dJ (Nat.le_trans (hsz 3) (by decide))) ?_
  simp(disch:=omega)only[go_sem,hp1,hix,hlv,hfx,hlx,hfg,hld,hvs,hln]
  have hx:SStep.ok ⟨6,numC (txt l 1),0,numC (txt l 3),txt l 2,⟨#[]⟩,⟨#[]⟩⟩:=⟨by first|exact Nat.zero_le _|exact Nat.le_trans (hsz _) (by decide),by first|exact Nat.zero_le _|exact Nat.le_trans (hsz _) (by decide),Nat.zero_le _⟩
  refine bK (v:=.tup .unit) ((h1.ob e tBed (bdOf (lifeF L ⟨6,numC (txt l 1),0,numC (txt l 3),txt l 2,⟨#[]⟩,⟨#[]⟩⟩)).enc).ob d tRD (encRD (bs++sayL (eQ L ⟨6,numC (txt l 1),0,numC (txt l 3),txt l 2,⟨#[]⟩,⟨#[]⟩⟩)) e)) rfl ⟨rfl,rfl⟩ rfl (by simp only[go_sem];exact gY (L:=L) (x:=⟨6,numC (txt l 1),0,numC (txt l 3),txt l 2,⟨#[]⟩,⟨#[]⟩⟩) (by exact hl) (by simp only[go_sem,hrd1]) (by simp only[go_sem,hbd1]) hde hi.inv hx (by omega) (ez L _)) ?_
  simp(disch:=omega)only[go_sem]
  rw[FH (L:=L) hw hL]
  exact RK.stepped hF1 hde hdn hen
 |false=>
 simp(disch:=omega)only[go_sem,c5]
 refine mj (w:=⟨#[119,114,105,116,101]⟩) (n:=1) (l:=l) (by simp only[go_sem]) (by simp only[go_sem]) (by simp only[go_sem]) (by simp only[go_sem]) hv hvs hpos (by decide) ?_
 cases c6:isW l ⟨#[119,114,105,116,101]⟩ 1 with
 |true=>
  obtain⟨hw,hL⟩:=eK.1 c6
  have hp1:(l.length:Int)=2:=by omega
  simp(disch:=omega)only[go_sem,c6,hp1,hix,hlv,hfx,hlx,hfg,hld,hvs,hln]
  refine am rfl ⟨rfl,rfl⟩ (by simp only[go_sem];exact dJ (Nat.le_trans (hsz 1) (by decide))) ?_
  simp(disch:=omega)only[go_sem,hp1,hix,hlv,hfx,hlx,hfg,hld,hvs,hln]
  have hx:SStep.ok ⟨7,0,0,numC (txt l 1),⟨#[]⟩,⟨#[]⟩,⟨#[]⟩⟩:=⟨by first|exact Nat.zero_le _|exact Nat.le_trans (hsz _) (by decide),by first|exact Nat.zero_le _|exact Nat.le_trans (hsz _) (by decide),Nat.zero_le _⟩
  refine bK (v:=.tup .unit) ((h1.ob e tBed (bdOf (lifeF L ⟨7,0,0,numC (txt l 1),⟨#[]⟩,⟨#[]⟩,⟨#[]⟩⟩)).enc).ob d tRD (encRD (bs++sayL (eQ L ⟨7,0,0,numC (txt l 1),⟨#[]⟩,⟨#[]⟩,⟨#[]⟩⟩)) e)) rfl ⟨rfl,rfl⟩ rfl (by simp only[go_sem];exact gY (L:=L) (x:=⟨7,0,0,numC (txt l 1),⟨#[]⟩,⟨#[]⟩,⟨#[]⟩⟩) (by exact hl) (by simp only[go_sem,hrd1]) (by simp only[go_sem,hbd1]) hde hi.inv hx (by omega) (ez L _)) ?_
  simp(disch:=omega)only[go_sem]
  rw[FG (L:=L) hw hL]
  exact RK.stepped hF1 hde hdn hen
 |false=>
 simp(disch:=omega)only[go_sem,c6]
 refine mj (w:=⟨#[115,121,110,99]⟩) (n:=0) (l:=l) (by simp only[go_sem]) (by simp only[go_sem]) (by simp only[go_sem]) (by simp only[go_sem]) hv hvs hpos (by decide) ?_
 cases c7:isW l ⟨#[115,121,110,99]⟩ 0 with
 |true=>
  obtain⟨hw,hL⟩:=eK.1 c7
  have hp1:(l.length:Int)=1:=by omega
  simp(disch:=omega)only[go_sem,c7,hp1,hix,hlv,hfx,hlx,hfg,hld,hvs,hln]
  have hx:SStep.ok ⟨8,0,0,0,⟨#[]⟩,⟨#[]⟩,⟨#[]⟩⟩:=⟨by first|exact Nat.zero_le _|exact Nat.le_trans (hsz _) (by decide),by first|exact Nat.zero_le _|exact Nat.le_trans (hsz _) (by decide),Nat.zero_le _⟩
  refine bK (v:=.tup .unit) ((h1.ob e tBed (bdOf (lifeF L ⟨8,0,0,0,⟨#[]⟩,⟨#[]⟩,⟨#[]⟩⟩)).enc).ob d tRD (encRD (bs++sayL (eQ L ⟨8,0,0,0,⟨#[]⟩,⟨#[]⟩,⟨#[]⟩⟩)) e)) rfl ⟨rfl,rfl⟩ rfl (by simp only[go_sem];exact gY (L:=L) (x:=⟨8,0,0,0,⟨#[]⟩,⟨#[]⟩,⟨#[]⟩⟩) (by exact hl) (by simp only[go_sem,hrd1]) (by simp only[go_sem,hbd1]) hde hi.inv hx (by omega) (ez L _)) ?_
  simp(disch:=omega)only[go_sem]
  rw[AZ (L:=L) (j:=8) (by decide) hw hL]
  exact RK.stepped hF1 hde hdn hen
 |false=>
 simp(disch:=omega)only[go_sem,c7]
 refine mj (w:=⟨#[99,114,97,115,104]⟩) (n:=0) (l:=l) (by simp only[go_sem]) (by simp only[go_sem]) (by simp only[go_sem]) (by simp only[go_sem]) hv hvs hpos (by decide) ?_
 cases c8:isW l ⟨#[99,114,97,115,104]⟩ 0 with
 |true=>
  obtain⟨hw,hL⟩:=eK.1 c8
  have hp1:(l.length:Int)=1:=by omega
  simp(disch:=omega)only[go_sem,c8,hp1,hix,hlv,hfx,hlx,hfg,hld,hvs,hln]
  have hx:SStep.ok ⟨9,0,0,0,⟨#[]⟩,⟨#[]⟩,⟨#[]⟩⟩:=⟨by first|exact Nat.zero_le _|exact Nat.le_trans (hsz _) (by decide),by first|exact Nat.zero_le _|exact Nat.le_trans (hsz _) (by decide),Nat.zero_le _⟩
  refine bK (v:=.tup .unit) ((h1.ob e tBed (bdOf (lifeF L ⟨9,0,0,0,⟨#[]⟩,⟨#[]⟩,⟨#[]⟩⟩)).enc).ob d tRD (encRD (bs++sayL (eQ L ⟨9,0,0,0,⟨#[]⟩,⟨#[]⟩,⟨#[]⟩⟩)) e)) rfl ⟨rfl,rfl⟩ rfl (by simp only[go_sem];exact gY (L:=L) (x:=⟨9,0,0,0,⟨#[]⟩,⟨#[]⟩,⟨#[]⟩⟩) (by exact hl) (by simp only[go_sem,hrd1]) (by simp only[go_sem,hbd1]) hde hi.inv hx (by omega) (ez L _)) ?_
  simp(disch:=omega)only[go_sem]
  rw[AZ (L:=L) (j:=9) (by decide) hw hL]
  exact RK.stepped hF1 hde hdn hen
 |false=>
 simp(disch:=omega)only[go_sem,c8]
 have hwno:(wordsC l).2=false:=AP fun j h1 hj=>by
  have:j=1\/j=2\/j=3\/j=4\/j=5\/j=6\/j=7\/j=8\/j=9:=by omega
  rcases this with rfl|rfl|rfl|rfl|rfl|rfl|rfl|rfl|rfl
  ·exact c0
  ·exact c2
  ·exact c1
  ·exact c3
  ·exact c4
  ·exact c5
  ·exact c6
  ·exact c7
  ·exact c8
 rw[yn hwno]
 have hwf:=hi.inv.wf
 have eN:(bdOf L).now=L.fl.now:=rfl
 have eD:(bdOf L).disk=L.fl.disk:=rfl
 have s63:∀i,(txt l i).size<=9223372036854775807:=fun i=>Nat.le_trans (hsz i) (by decide)
 refine mj (w:=⟨#[114,101,97,100]⟩) (n:=3) (l:=l) (by simp only[go_sem]) (by simp only[go_sem]) (by simp only[go_sem]) (by simp only[go_sem]) hv hvs hpos (by decide) ?_
 cases c9:isW l ⟨#[114,101,97,100]⟩ 3 with
 |true=>
  obtain⟨hw,hL⟩:=eK.1 c9
  have hp1:(l.length:Int)=4:=by omega
  simp(disch:=omega)only[go_sem,c9,hp1,hix,hlv,hfx,hlx,hfg,hld,hvs,hln,hrd1,hbd1]
  refine am rfl ⟨rfl,rfl⟩ (by simp only[go_sem];exact dJ (Nat.le_trans (hsz 1) (by decide))) ?_
  simp(disch:=omega)only[go_sem,hp1,hix,hlv,hfx,hlx,hfg,hld,hvs,hln,hrd1,hbd1]
  refine am rfl ⟨rfl,rfl⟩ (by simp only[go_sem];exact dJ (Nat.le_trans (hsz 3) (by decide))) ?_
  simp(disch:=omega)only[go_sem,hp1,hix,hlv,hfx,hlx,hfg,hld,hvs,hln,hrd1,hbd1]
  refine am rfl ⟨rfl,rfl⟩ (by simp only[go_sem];exact upW (upV (upT (Da (B:=bdOf L) hbd1 (by rw[eN];exact hwf) (s63 2))))) ?_
  rw[eN]
  have ea:dP L l=some (sayL (ja L (l.drop 1))):=by simp[dP,hw,hL,fA,fB,fy,fx,fC,d8,dR]
  rw[ea]
  simp only[Option.getD_some]
  have er:ja L (l.drop 1)=if¬readC L.fl.now (numC (txt l 1)) (txt l 2) (numC (txt l 3))=0 then[wNo,bsL (bz (readC L.fl.now (numC (txt l 1)) (txt l 2) (numC (txt l 3))))]else if readB L.fl.now (numC (txt l 1)) (txt l 2) (numC (txt l 3))=false then[pa]else[bsL (bS (readT L.fl.now (numC (txt l 1)) (txt l 2) (numC (txt l 3))).data.toList)]:=by
   simp only[ja,uQ]
  rw[er]
  have hrc:=mE L.fl.now (numC (txt l 1)) (txt l 2) (numC (txt l 3))
  have hrt:(readT L.fl.now (numC (txt l 1)) (txt l 2) (numC (txt l 3))).size<=100000:=by
   unfold readT
   split
   ·exact Nat.le_trans (hi.now.dat _).2 (by decide)
   ·decide
  have elt:=cT hrc
  generalize readC L.fl.now (numC (txt l 1)) (txt l 2) (numC (txt l 3))=rc at hrc elt⊢
  generalize readB L.fl.now (numC (txt l 1)) (txt l 2) (numC (txt l 3))=rb
  generalize readT L.fl.now (numC (txt l 1)) (txt l 2) (numC (txt l 3))=rt at hrt⊢
  by_cases hc:rc=0
  rotate_left
  ·simp(disch:=omega)only[go_sem,mR,hc]
   refine am rfl ⟨rfl,rfl⟩ (by simp only[go_sem];exact gk hrc) ?_
   have en:evStr .add ⟨#[110,111,32]⟩ (bsL (bz rc))=some (.str (bsL (110::111::32::bz rc))):=cD (a:=[110,111,32]) (by simp;omega)
   simp(disch:=omega)only[go_sem,en]
   refine bK (v:=.tup .unit) (h1.ob d tRD (encRD (bs++((110::111::32::bz rc)++[10])) e)) rfl ⟨rfl,rfl⟩ rfl (by simp only[go_sem];exact ge (s:=110::111::32::bz rc) (bs:=bs) (by exact hl) (by simp only[go_sem,hrd1]) (by simp;omega)) ?_
   simp(disch:=omega)only[go_sem]
   simp only[not_true_eq_false,not_false_eq_true,if_true,if_false]
   rw[show sayL [wNo,bsL (bz rc)]=(110::111::32::bz rc)++[10]by simp[sayL,fk,Lib.join,wNo,bsL]]
   exact RK.said hF1 hbd1 hde hdn hen
  subst hc
  cases rb with
  |false=>
   simp(disch:=omega)only[go_sem,mR]
   refine bK (v:=.tup .unit) (h1.ob d tRD (encRD (bs++([110,111,110,101]++[10])) e)) rfl ⟨rfl,rfl⟩ rfl (by simp only[go_sem];exact ge (s:=[110,111,110,101]) (bs:=bs) (by exact hl) (by simp only[go_sem,hrd1]) (by simp;omega)) ?_
   simp(disch:=omega)only[go_sem]
   simp only[not_true_eq_false,not_false_eq_true,if_true,if_false]
   rw[show sayL [pa]=[110,111,110,101]++[10]by simp[sayL,fk,Lib.join,pa]]
   exact RK.said hF1 hbd1 hde hdn hen
  |true=>
   simp(disch:=omega)only[go_sem,mR]
   refine am rfl ⟨rfl,rfl⟩ (by simp only[go_sem];exact upW (upV (rQ hrt))) ?_
   simp(disch:=omega)only[go_sem]
   have hsl:=lV rt.data.toList
   have h2:rt.data.toList.length=rt.size:=Array.length_toList
   refine bK (v:=.tup .unit) (h1.ob d tRD (encRD (bs++(bS rt.data.toList++[10])) e)) rfl ⟨rfl,rfl⟩ rfl (by simp only[go_sem];exact ge (s:=bS rt.data.toList) (bs:=bs) (by exact hl) (by simp only[go_sem,hrd1]) (by omega)) ?_
   simp(disch:=omega)only[go_sem]
   simp only[not_true_eq_false,not_false_eq_true,if_true,if_false]
   rw[show sayL [bsL (bS rt.data.toList)]=bS rt.data.toList++[10]by simp[sayL,fk,Lib.join,bsL]]
   exact RK.said hF1 hbd1 hde hdn hen
 |false=>
 simp(disch:=omega)only[go_sem,c9]
 refine mj (w:=⟨#[108,105,115,116]⟩) (n:=1) (l:=l) (by simp only[go_sem]) (by simp only[go_sem]) (by simp only[go_sem]) (by simp only[go_sem]) hv hvs hpos (by decide) ?_
 cases c10:isW l ⟨#[108,105,115,116]⟩ 1 with
 |true=>
  obtain⟨hw,hL⟩:=eK.1 c10
  have hp1:(l.length:Int)=2:=by omega
  simp(disch:=omega)only[go_sem,c10,hp1,hix,hlv,hfx,hlx,hfg,hld,hvs,hln,hrd1,hbd1]
  refine am rfl ⟨rfl,rfl⟩ (by simp only[go_sem];exact dJ (Nat.le_trans (hsz 1) (by decide))) ?_
  simp(disch:=omega)only[go_sem,hp1,hix,hlv,hfx,hlx,hfg,hld,hvs,hln,hrd1,hbd1]
  refine eY (S:=[]) (R:=fun v' h'=>SlF h1 h' v' (listOf L.fl.now (numC (txt l 1)))) rfl ⟨rfl,rfl⟩ (by simp only[go_sem];exact upW (upV (upT (Db (B:=bdOf L) (by exact hl) hbd1 (Nat.lt_of_lt_of_le hen hF1.next))))) (fun v h1 e=>e) ?_
  rintro v2 h2 hF2 hs2
  have hrd2:h2.look (.obj d)=some ⟨tRD,encRD bs e⟩:=hF2.look (Nat.lt_of_lt_of_le hdn hF1.next) (by simp) hrd1
  have hbd2:h2.look (.obj e)=some ⟨tBed,(bdOf L).enc⟩:=hF2.look (Nat.lt_of_lt_of_le hen hF1.next) (by simp) hbd1
  have ea:dP L l=some (sayL (wNames::listOf L.fl.now (numC (txt l 1)))):=by simp[dP,hw,hL,fA,fB,fy,fx,fC,d8,dR]
  rw[ea]
  simp only[Option.getD_some]
  have hll:=list_len hi.now (numC (txt l 1)) (n:=0) (by decide)
  have h4:=mJ L.fl.now (numC (txt l 1))
  generalize listOf L.fl.now (numC (txt l 1))=w at hs2 hll h4⊢
  have hv2:Txs h2 cx.lvl v2 w:=hs2.txs
  have hix2:=fun z sl own=>hv2.ix (cx:=cx) (kk:=.i64) (z:=z) sl own
  have hlv2:=fun z sl own=>hv2.lv (cx:=cx) (z:=z) sl own
  have hfx2:=fun z t=>hv2.fgx (t:=t) z
  have hlx2:=fun z t=>hv2.ldx (t:=t) z
  have hln2:=hv2.len
  have hfg2:=fun t=>hv2.fg (t:=t)
  have hld2:=fun t=>hv2.ld (t:=t)
  simp(disch:=omega)only[go_sem,hln2,hfg2,hld2]
  refine fo w.length (fun j=>⟨[(2,.ptr (.stk cx.lvl 2) [] tP),(12,.str (bsL (eX w j))),(13,v2),(14,.int .i64 j)],[(2,⟨tP,.ptr (.obj d) [] tRD⟩)],h2⟩) (by simp only[go_sem,Bm]<;>rfl) fun j hj ih=>?_
  have hnl:=lq w j hj
  have hs4:(sayL (wNames::w)).length<=1048576:=by omega
  by_cases hlt:j<w.length
  ·have e1:evStr .add ⟨#[32]⟩ (txt w j)=some (.str (bsL (32::(txt w j).data.toList))):=by
    have:=cD (a:=[32]) (b:=(txt w j).data.toList) (by have:=lq w (j+1) hlt;rw[kq hlt]at this;simp only[List.length_append,List.length_cons]at this⊢;simp only[List.length_nil];omega)
    rw[xS]at this
    exact this
   have e2:evStr .add (bsL (eX w j)) (bsL (32::(txt w j).data.toList))=some (.str (bsL (eX w (j+1)))):=by
    rw[kq hlt]
    exact cD (by have:=lq w (j+1) hlt;rw[kq hlt]at this;simp only[List.length_append]at this;omega)
   simp(disch:=omega)only[go_sem,hln2,hfg2,hld2,hix2,hlv2,hfx2,hlx2,hlt,e1,e2]
   refine ih _ hlt ?_
   simp only[go_sem]
  ·obtain rfl:j=w.length:=by omega
   simp(disch:=omega)only[go_sem,hln2,hfg2,hld2]
   refine bK (v:=.tup .unit) (h2.ob d tRD (encRD (bs++(eX w w.length++[10])) e)) rfl ⟨rfl,rfl⟩ rfl (by simp only[go_sem];exact ge (s:=eX w w.length) (bs:=bs) (by exact hl) (by simp only[go_sem,hrd2]) (by omega)) ?_
   simp(disch:=omega)only[go_sem]
   rw[←qC]
   exact RK.said (hF1.trans hF2) hbd2 hde hdn hen
 |false=>
 simp(disch:=omega)only[go_sem,c10]
 refine mj (w:=⟨#[115,97,109,101]⟩) (n:=4) (l:=l) (by simp only[go_sem]) (by simp only[go_sem]) (by simp only[go_sem]) (by simp only[go_sem]) hv hvs hpos (by decide) ?_
 cases c11:isW l ⟨#[115,97,109,101]⟩ 4 with
 |true=>
  obtain⟨hw,hL⟩:=eK.1 c11
  have hp1:(l.length:Int)=5:=by omega
  simp(disch:=omega)only[go_sem,c11,hp1,hix,hlv,hfx,hlx,hfg,hld,hvs,hln,hrd1,hbd1]
  refine am rfl ⟨rfl,rfl⟩ (by simp only[go_sem];exact dJ (Nat.le_trans (hsz 1) (by decide))) ?_
  simp(disch:=omega)only[go_sem,hp1,hix,hlv,hfx,hlx,hfg,hld,hvs,hln,hrd1,hbd1]
  refine am rfl ⟨rfl,rfl⟩ (by simp only[go_sem];exact dJ (Nat.le_trans (hsz 3) (by decide))) ?_
  simp(disch:=omega)only[go_sem,hp1,hix,hlv,hfx,hlx,hfg,hld,hvs,hln,hrd1,hbd1]
  refine am rfl ⟨rfl,rfl⟩ (by simp only[go_sem];exact upW (upV (upT (C9 (B:=bdOf L) hbd1)))) ?_
  rw[eN]
  have ea:dP L l=some (sayL [boolS (sameB L.fl.now (numC (txt l 1)) (txt l 2) (numC (txt l 3)) (txt l 4))]):=by simp[dP,hw,hL,fA,fB,fy,fx,fC,d8,dR]
  rw[ea]
  simp only[Option.getD_some]
  generalize sameB L.fl.now (numC (txt l 1)) (txt l 2) (numC (txt l 3)) (txt l 4)=b
  simp(disch:=omega)only[go_sem]
  refine Fx (b:=b) (by simp only[go_sem]) (by simp only[go_sem]<;>rfl) (by simp only[go_sem]) hl hrd1 (by omega) ?_
  simp(disch:=omega)only[go_sem]
  exact RK.said hF1 hbd1 hde hdn hen
 |false=>
 simp(disch:=omega)only[go_sem,c11]
 refine mj (w:=⟨#[115,117,114,101]⟩) (n:=2) (l:=l) (by simp only[go_sem]) (by simp only[go_sem]) (by simp only[go_sem]) (by simp only[go_sem]) hv hvs hpos (by decide) ?_
 cases c12:isW l ⟨#[115,117,114,101]⟩ 2 with
 |true=>
  obtain⟨hw,hL⟩:=eK.1 c12
  have hp1:(l.length:Int)=3:=by omega
  simp(disch:=omega)only[go_sem,c12,hp1,hix,hlv,hfx,hlx,hfg,hld,hvs,hln,hrd1,hbd1]
  refine am rfl ⟨rfl,rfl⟩ (by simp only[go_sem];exact dJ (Nat.le_trans (hsz 1) (by decide))) ?_
  simp(disch:=omega)only[go_sem,hp1,hix,hlv,hfx,hlx,hfg,hld,hvs,hln,hrd1,hbd1]
  refine am rfl ⟨rfl,rfl⟩ (by simp only[go_sem];exact upW (upV (upT (C7 (B:=bdOf L) hbd1)))) ?_
  rw[eN,eD]
  have ea:dP L l=some (sayL [boolS (sureB L.fl.now L.fl.disk (numC (txt l 1)) (txt l 2))]):=by simp[dP,hw,hL,fA,fB,fy,fx,fC,d8,dR]
  rw[ea]
  simp only[Option.getD_some]
  generalize sureB L.fl.now L.fl.disk (numC (txt l 1)) (txt l 2)=b
  simp(disch:=omega)only[go_sem]
  refine Fx (b:=b) (by simp only[go_sem]) (by simp only[go_sem]<;>rfl) (by simp only[go_sem]) hl hrd1 (by omega) ?_
  simp(disch:=omega)only[go_sem]
  exact RK.said hF1 hbd1 hde hdn hen
 |false=>
 simp(disch:=omega)only[go_sem,c12]
 refine mj (w:=⟨#[100,105,115,107]⟩) (n:=0) (l:=l) (by simp only[go_sem]) (by simp only[go_sem]) (by simp only[go_sem]) (by simp only[go_sem]) hv hvs hpos (by decide) ?_
 cases c13:isW l ⟨#[100,105,115,107]⟩ 0 with
 |true=>
  obtain⟨hw,hL⟩:=eK.1 c13
  have hp1:(l.length:Int)=1:=by omega
  simp(disch:=omega)only[go_sem,c13,hp1,hix,hlv,hfx,hlx,hfg,hld,hvs,hln,hrd1,hbd1]
  refine am rfl ⟨rfl,rfl⟩ (by simp only[go_sem];exact upW (upV (Ao (m:=L.fl.disk) (p:=.obj e) (q:=[1]) (ar _ _) (by rw[HP.push_rd_ext (ar _ _)];simp only[HP.rd,hbd1,Option.bind_some];rfl) (mD hi.disk)))) ?_
  have htl:=nS hi.disk
  have ea:dP L l=some (textL L.fl.disk++sayL [rY]):=by simp[dP,hw,hL,fA,fB,fy,fx,fC,d8,dR]
  rw[ea]
  simp only[Option.getD_some]
  generalize textL L.fl.disk=tx at htl⊢
  have e1:evStr .add (bsL bs) (bsL tx)=some (.str (bsL (bs++tx))):=cD (by omega)
  simp(disch:=omega)only[go_sem,e1,cN (hl d),hrd1]
  refine bK (v:=.tup .unit) (h1.ob d tRD (encRD ((bs++tx)++([101,110,100]++[10])) e)) rfl ⟨rfl,rfl⟩ rfl (by
   simp only[go_sem]
   refine(ge (e:=e) (d:=d) (s:=[101,110,100]) (bs:=bs++tx) (by exact hl) ?_ (by simp;omega)).mono ?_
   ·simp only[go_sem]
   ·rintro v h' ⟨q1,rfl⟩
    exact⟨q1,by simp only[go_sem]⟩) ?_
  simp(disch:=omega)only[go_sem]
  rw[show tx++sayL [rY]=tx++[101,110,100,10]by simp[sayL,fk,Lib.join,rY],←List.append_assoc]
  exact RK.said hF1 hbd1 hde hdn hen
 |false=>
 simp(disch:=omega)only[go_sem,c13]
 refine mj (w:=⟨#[100,105,114,116,121]⟩) (n:=0) (l:=l) (by simp only[go_sem]) (by simp only[go_sem]) (by simp only[go_sem]) (by simp only[go_sem]) hv hvs hpos (by decide) ?_
 cases c14:isW l ⟨#[100,105,114,116,121]⟩ 0 with
 |true=>
  obtain⟨hw,hL⟩:=eK.1 c14
  have hp1:(l.length:Int)=1:=by omega
  simp(disch:=omega)only[go_sem,c14,hp1,hix,hlv,hfx,hlx,hfg,hld,hvs,hln,hrd1,hbd1]
  have ea:dP L l=some (sayL [bsL (dirtyT L 14)]):=by simp[dP,hw,hL,fA,fB,fy,fx,fC,d8,dR]
  rw[ea]
  simp only[Option.getD_some]
  exact Hp (by simp only[go_sem]<;>rfl) hF1 hbd1 hrd1 hde hdn hen hl (by omega)
 |false=>
 simp(disch:=omega)only[go_sem,c14]
 refine mj (w:=⟨#[108,111,115,116]⟩) (n:=0) (l:=l) (by simp only[go_sem]) (by simp only[go_sem]) (by simp only[go_sem]) (by simp only[go_sem]) hv hvs hpos (by decide) ?_
 cases c15:isW l ⟨#[108,111,115,116]⟩ 0 with
 |true=>
  obtain⟨hw,hL⟩:=eK.1 c15
  have hp1:(l.length:Int)=1:=by omega
  simp(disch:=omega)only[go_sem,c15,hp1,hix,hlv,hfx,hlx,hfg,hld,hvs,hln,hrd1,hbd1]
  have hcn:=hi.cnt
  have q3:(bdOf L).crashes=L.n:=rfl
  have q4:(bdOf L).files=L.a:=rfl
  have q5:(bdOf L).counts=L.b:=rfl
  have q6:(bdOf L).datas=L.c:=rfl
  have k1:=cT hcn.2.2.2
  have k2:=cT hcn.1
  have k3:=cT hcn.2.1
  have k4:=cT hcn.2.2.1
  have ea:dP L l=some (sayL [dR,bsL (bz L.n),bsL (bz L.a),bsL (bz L.b),bsL (bz L.c)]):=by simp[dP,hw,hL,fA,fB,fy,fx,fC,d8,dR]
  rw[ea]
  simp only[Option.getD_some]
  obtain⟨t1,ht1⟩:∃t,t=[108,111,115,116,32]++bz L.n:=⟨_,rfl⟩
  have a1:evStr .add ⟨#[108,111,115,116,32]⟩ (bsL (bz L.n))=some (.str (bsL t1)):=by rw[ht1];exact cD (a:=[108,111,115,116,32]) (by simp;omega)
  have u1:t1.length<=30:=by rw[ht1];simp;omega
  obtain⟨t2,ht2⟩:∃t,t=t1++[32]:=⟨_,rfl⟩
  have a2:evStr .add (bsL t1) ⟨#[32]⟩=some (.str (bsL t2)):=by rw[ht2];exact cD (b:=[32]) (by simp;omega)
  have u2:t2.length<=60:=by rw[ht2];simp;omega
  obtain⟨t3,ht3⟩:∃t,t=t2++bz L.a:=⟨_,rfl⟩
  have a3:evStr .add (bsL t2) (bsL (bz L.a))=some (.str (bsL t3)):=by rw[ht3];exact cD (by omega)
  have u3:t3.length<=90:=by rw[ht3];simp;omega
  obtain⟨t4,ht4⟩:∃t,t=t3++[32]:=⟨_,rfl⟩
  have a4:evStr .add (bsL t3) ⟨#[32]⟩=some (.str (bsL t4)):=by rw[ht4];exact cD (b:=[32]) (by simp;omega)
  have u4:t4.length<=120:=by rw[ht4];simp;omega
  obtain⟨t5,ht5⟩:∃t,t=t4++bz L.b:=⟨_,rfl⟩
  have a5:evStr .add (bsL t4) (bsL (bz L.b))=some (.str (bsL t5)):=by rw[ht5];exact cD (by omega)
  have u5:t5.length<=150:=by rw[ht5];simp;omega
  obtain⟨t6,ht6⟩:∃t,t=t5++[32]:=⟨_,rfl⟩
  have a6:evStr .add (bsL t5) ⟨#[32]⟩=some (.str (bsL t6)):=by rw[ht6];exact cD (b:=[32]) (by simp;omega)
  have u6:t6.length<=180:=by rw[ht6];simp;omega
  obtain⟨t7,ht7⟩:∃t,t=t6++bz L.c:=⟨_,rfl⟩
  have a7:evStr .add (bsL t6) (bsL (bz L.c))=some (.str (bsL t7)):=by rw[ht7];exact cD (by omega)
  have u7:t7.length<=210:=by rw[ht7];simp;omega
  have es:sayL [dR,bsL (bz L.n),bsL (bz L.a),bsL (bz L.b),bsL (bz L.c)]=t7++[10]:=by
   rw[ht7,ht6,ht5,ht4,ht3,ht2,ht1]
   simp[sayL,fk,Lib.join_cons,Lib.joinTail,dR,bsL]
  rw[es,q3]
  refine am rfl ⟨rfl,rfl⟩ (by simp only[go_sem];exact gk hcn.2.2.2) ?_
  simp(disch:=omega)only[go_sem,hrd1,hbd1,q4,a1,a2,a3,a4,a5,a6,a7]
  refine am rfl ⟨rfl,rfl⟩ (by simp only[go_sem];exact gk hcn.1) ?_
  simp(disch:=omega)only[go_sem,hrd1,hbd1,q5,a1,a2,a3,a4,a5,a6,a7]
  refine am rfl ⟨rfl,rfl⟩ (by simp only[go_sem];exact gk hcn.2.1) ?_
  simp(disch:=omega)only[go_sem,hrd1,hbd1,q6,a1,a2,a3,a4,a5,a6,a7]
  refine am rfl ⟨rfl,rfl⟩ (by simp only[go_sem];exact gk hcn.2.2.1) ?_
  simp(disch:=omega)only[go_sem,hrd1,hbd1,a1,a2,a3,a4,a5,a6,a7]
  refine bK (v:=.tup .unit) (h1.ob d tRD (encRD (bs++(t7++[10])) e)) rfl ⟨rfl,rfl⟩ rfl (by simp only[go_sem];exact ge (s:=t7) (bs:=bs) (by exact hl) (by simp only[go_sem,hrd1]) (by omega)) ?_
  simp(disch:=omega)only[go_sem]
  exact RK.said hF1 hbd1 hde hdn hen
 |false=>
 simp(disch:=omega)only[go_sem,c15]
 have ea:dP L l=none:=by
  have q9:=fun w n (hq:isW l w n=false)=>show¬(txt l 0=w/\l.length=1+n)from fun q=>by rw[eK.2 q]at hq;exact absurd hq (by decide)
  have z9:¬(txt l 0=fA/\l.length=4):=q9 _ _ c9
  have z10:¬(txt l 0=fB/\l.length=2):=q9 _ _ c10
  have z11:¬(txt l 0=fy/\l.length=5):=q9 _ _ c11
  have z12:¬(txt l 0=fx/\l.length=3):=q9 _ _ c12
  have z13:¬(txt l 0=fC/\l.length=1):=q9 _ _ c13
  have z14:¬(txt l 0=d8/\l.length=1):=q9 _ _ c14
  have z15:¬(txt l 0=dR/\l.length=1):=q9 _ _ c15
  unfold dP
  rw[if_neg z9,if_neg z10,if_neg z11,if_neg z12,if_neg z13,if_neg z14,if_neg z15]
 rw[ea]
 refine bK (v:=.tup .unit) (h1.ob d tRD (encRD (bs++([119,104,97,116]++[10])) e)) rfl ⟨rfl,rfl⟩ rfl (by simp only[go_sem];exact ge (s:=[119,104,97,116]) (bs:=bs) (by exact hl) (by simp only[go_sem,hrd1]) (by simp;omega)) ?_
 simp(disch:=omega)only[go_sem]
 exact RK.said hF1 hbd1 hde hdn hen
end
section
variable{cx:Cx}{h h0:HP}{d e:Nat}{bs bs':List UInt8}{L L':Lf}
theorem RK.trans(a:RK h0 h d e L bs)(b:RK h h1 d e L' bs'):RK h0 h1 d e L' bs':=
 ⟨a.fr.trans b.fr,b.rd,b.bd,a.de,a.dn,a.en⟩
theorem RK.pushed{l:Nat}{o:Own}(a:RK h0 h d e L bs):RK (h.push l o) (h.push l o) d e L bs:=
 ⟨Fr.refl _ _,a.rd,a.bd,a.de,Nat.lt_of_lt_of_le a.dn a.fr.next,Nat.lt_of_lt_of_le a.en a.fr.next⟩
theorem RK.popped{h':HP}{l:Nat}{o:Own}{q:AV}(a:RK (h.push l o) h' d e L bs)(hv:v=q):∃h1:HP,h'=h1.push l o/\h1.stk=h.stk/\v=q/\RK h h1 d e L bs:=by
 obtain⟨hF,rd,bd,de,dn,en⟩:=a
 have hh:h'=HP.push ⟨h.stk,h'.obj,h'.next,h'.arg⟩ l o:=by
  have:=hF.stk
  cases h'
  simp only at this
  subst this
  rfl
 exact⟨⟨h.stk,h'.obj,h'.next,h'.arg⟩,hh,rfl,hv,⟨rfl,hF.arg,hF.next,hF.same⟩,rd,bd,de,dn,en⟩
theorem Hj(hl:HL cx)(hR:RK h h d e L bs)(hi:LTight L)(hv:Txs h cx.lvl v ls)(hno:notObj v)(hn:ls.length<=150)(hs:∀i,(txt ls i).size<=10000):
  Ok gI cx Fn.dB (St.enter [.ptr (.obj d) [] tRD,v] h) fun v' h'=>v'=.str (bsL (runC L ls).1)/\RK h h' d e (runC L ls).2 (runC L ls).1:=by
 have hfg:=fun t=>hv.fg (t:=t)
 have hld:=fun t=>hv.ld (t:=t)
 have hfx:=fun z t=>hv.fgx (t:=t) z
 have hlx:=fun z t=>hv.ldx (t:=t) z
 have hln:=hv.len
 have h150:=qG hi
 obtain⟨hF,hrd,hbd,hde,hdn,hen⟩:=hR
 have hR0:RK h (h.ob d tRD (encRD [] e)) d e L []:=RK.said (Fr.refl _ _) hbd hde hdn hen
 rw[aE]
 simp(disch:=omega)only[go_sem,hrd,cN (hl d),hln,hfg,hld]
 refine gv (α:=HP) ls.length (fun j hp=>⟨[(0,.ptr (.obj d) [] tRD),(1,v),(5,.int .i64 j)],[],hp⟩) (fun j hp=>RK h hp d e (runC L (ls.take j)).2 (runC L (ls.take j)).1) (h.ob d tRD (encRD [] e)) (by simp only[go_sem]<;>rfl) (by simpa[runC]using hR0) fun j hp hj hDj ih=>?_
 by_cases hlt:j<ls.length
 ·have hvp:Txs hp cx.lvl v ls:=hv.fr hDj.fr hno
  have hixp:=fun z sl own=>hvp.ix (cx:=cx) (kk:=.i64) (z:=z) sl own
  have hlvp:=fun z sl own=>hvp.lv (cx:=cx) (z:=z) sl own
  have ej:ls.take (j+1)=ls.take j++[txt ls j]:=by rw[iA hlt,List.take_add_one,List.getElem?_eq_getElem hlt];rfl
  have er:=sD L (ls.take j) (txt ls j)
  rw[←ej]at er
  have hLj:=lQ hi (ls.take j)
  have hlen:(runC L (ls.take j)).1.length<=600000:=by
   have:=h150 (ls.take j)
   simp only[List.length_take]at this
   omega
  generalize runC L (ls.take j)=Rj at er hDj hLj hlen
  simp(disch:=omega)only[go_sem,hln,hlt,hixp,hlvp,hfg,hld,hfx,hlx]
  refine nN (R:=fun v' h1=>v'=.tup .unit/\RK hp h1 d e (gf Rj.2 (txt ls j)).2 (Rj.1++(gf Rj.2 (txt ls j)).1)) rfl ⟨rfl,rfl⟩ (by
   simp only[go_sem]
   exact(CG (L:=Rj.2) (bs:=Rj.1) (by exact hl) hDj.pushed hLj (hs j) hlen).mono fun v' h' q=>q.2.popped q.1) ?_
  rintro _ h1 ⟨rfl,hR1⟩
  simp(disch:=omega)only[go_sem]
  refine ih _ h1 hlt ?_ ?_
  ·simp only[go_sem,hfg]
  ·rw[er];exact hDj.trans hR1
 ·obtain rfl:j=ls.length:=by omega
  rw[List.take_length]at hDj
  simp(disch:=omega)only[go_sem,hln,hfg,hld,hDj.rd]
  exact hDj
end
def mU(L:Lf)(ls:List Str):List UInt8:=if(eE ls).1=0 then(runC L ls).1 else[]
def k8(L:Lf)(ls:List Str):Lf:=if(eE ls).1=0 then(runC L ls).2 else L
theorem wj:(eE ls).1=0↔ls.length<=150/\o2 ls=false:=by
 unfold eE
 split
 ·simp;omega
 split
 ·rename_i h;simp[h]
 ·rename_i h1 h2;simp only[Bool.not_eq_true]at h2;simp[h2];omega
section
variable{cx:Cx}{h:HP}{d p f c:Nat}{L:Lf}
theorem C0(hl:HL cx)(hQ:DQ h d p f c L)(hi:LTight L)(hv:Txs h cx.lvl v ls)(hno:notObj v)(hs:∀i,(txt ls i).size<=10000):
  Ok ff cx Fn.aA (St.enter [.ptr (.obj d) [] tDesk,v] h) fun v' h'=>Fr h h' [d,p,f,c]/\∃f' c',v'=.tup (.cons (.str (bsL (mU L ls))) (.cons (eH (eE ls).1 (eE ls).2) .unit))/\DQ h' d p f' c' (k8 L ls)/\((f'=f/\c'=c)\/(h.next<=f'/\h.next<=c')):=by
 by_cases h150:150<ls.length
 ·have e:eE ls=(14,-1):=by rw[eE,if_pos h150]
  refine(EA hv h150).mono fun v' h' q=>?_
  obtain⟨rfl,rfl⟩:=q
  refine⟨Fr.refl _ _,f,c,?_,?_,.inl ⟨rfl,rfl⟩⟩
  ·rw[mU,e];rfl
  ·rw[k8,e];exact hQ
 cases hb:o2 ls with
 |true=>
  have e:eE ls=(15,Ce ls):=by rw[eE,if_neg h150,if_pos hb]
  refine(EB hv (by omega) hb).mono fun v' h' q=>?_
  obtain⟨rfl,rfl⟩:=q
  refine⟨Fr.refl _ _,f,c,?_,?_,.inl ⟨rfl,rfl⟩⟩
  ·rw[mU,e];rfl
  ·rw[k8,e];exact hQ
 |false=>
  have e:eE ls=(0,0):=by rw[eE,if_neg h150,if_neg (by rw[hb];decide)]
  refine(yZ hl hQ hi hv hno (by omega) hs hb).mono fun v' h' q=>?_
  obtain⟨hF,rfl,f',c',q1,q2⟩:=q
  refine⟨hF,f',c',?_,?_,q2⟩
  ·rw[mU,e];rfl
  ·rw[k8,e];exact q1
theorem uT(h:LTight L):LTight (k8 L ls):=by
 unfold k8
 split
 ·exact lQ h _
 ·exact h
end
section
variable{T:MTb}{cx:Cx}{k:List Item}{kill:List Nat}{r:List MOp}{sl:Slots}{own:Own}{h:HP}{Q:St->Prop}
def pairSl(a b:AV):AV:=.ofList [a,b]
theorem BG{b:AV}(ha:tSl.fits a=true)(hb:tSl.fits b=true):fill (.arr 2 tSl) (Ty.arr 2 tSl).zero [(0,a),(1,b)]=some (pairSl a b):=by
 simp[fill,Ty.part,ha,hb,Ty.zero,AV.put,pairSl,AV.ofList]
 funext j
 match j with
 |⟨0,_⟩=>rfl
 |⟨1,_⟩=>rfl
theorem Cg(a b:AV):(pairSl a b).at [0]=some a:=by simp[pairSl,AV.ofList,AV.at]
theorem Cf(a b:AV):(pairSl a b).at [1]=some b:=by simp[pairSl,AV.ofList,AV.at]
@[go_sem] theorem Ou(neg:Bool)(a b:Int):eqV (.cons tI (.cons tI .unit)) neg (eH a b) (eH a b)=some (.bool (if neg=true then !true else true)):=jJ rfl rfl (by simp[eH,AV.eq,iy])
theorem Ee{b:AV}(hx:St.opd ⟨sl,own,h⟩ x=a)(hy:St.opd ⟨sl,own,h⟩ y=b)(ha:tSl.fits a=true)(hb:tSl.fits b=true)
  (hq:W T cx (.ops r kill::k) ⟨(Slots.forget sl (.stk cx.lvl d)).set d (.sl (.stk cx.lvl d) 0 2),own.set d ⟨.arr 2 tSl,pairSl a b⟩,h⟩ Q):
  W T cx (.ops (⟨some d,.bslice false tSl 2 [(0,x),(1,y)],none⟩::r) kill::k) ⟨sl,own,h⟩ Q:=by
 rw[gW rfl,evOp]
 simp only[evK,List.map_cons,List.map_nil,hx,hy,BG ha hb]
 exact hq
theorem wP{va vb:AV}{la lb:List Str}(hl:HL cx)(hva:Txs h cx.lvl va la)(hvb:Txs h cx.lvl vb lb)(hna:notObj va)(hnb:notObj vb)(hfa:tSl.fits va=true)(hfb:tSl.fits vb=true)
  (hla:la.length<=4611686018427387904) (hlb:lb.length<=4611686018427387904) (hsa:∀i,(txt la i).size<=4611686018427387904) (hsb:∀i,(txt lb i).size<=4611686018427387904):
  Ok gI cx Fn.aZ (St.enter [va,vb] h) fun v h'=>v=.bool true:=by
 have hfga:=fun t=>hva.fg (t:=t)
 have hlda:=fun t=>hva.ld (t:=t)
 have hlna:=hva.len
 have hfgb:=fun t=>hvb.fg (t:=t)
 have hldb:=fun t=>hvb.ld (t:=t)
 have hlnb:=hvb.len
 rw[aE]
 simp(disch:=omega)only[go_sem,hfga,hlda,hfgb,hldb]
 refine eY (S:=[]) (R:=fun v _=>v=.bool true) rfl ⟨rfl,rfl⟩ (by simp only[go_sem];exact upW (uu (by exact hl))) (fun _ _ e=>e) ?_
 rintro _ h1 hF1 rfl
 have hva1:=hva.fr hF1 hna
 have hvb1:=hvb.fr hF1 hnb
 simp(disch:=omega)only[go_sem,hlna,hlnb,hfga,hlda,hfgb,hldb]
 by_cases ca:200<(la.length:Int)
 ·simp(disch:=omega)only[go_sem,ca,hfga,hlda,hfgb,hldb]
 by_cases cb:200<(lb.length:Int)
 ·simp(disch:=omega)only[go_sem,ca,cb,hlnb,hfga,hlda,hfgb,hldb]
 simp(disch:=omega)only[go_sem,ca,cb,hlnb,hfga,hlda,hfgb,hldb]
 refine lJ (P:=fun x=>∃b,x=.bool b/\(b=false->∀i,(txt la i).size<=10000)) h1 rfl ⟨rfl,rfl⟩ rfl (by simp only[go_sem];exact upW (Slow_ok hva1.push (by omega) hsa)) ?_
 rintro _ ⟨slowa,rfl,hsla⟩
 cases slowa with
 |true=>simp(disch:=omega)only[go_sem,hfga,hlda,hfgb,hldb]
 |false=>
 have hsza:=hsla rfl
 simp(disch:=omega)only[go_sem,hfga,hlda,hfgb,hldb]
 refine lJ (P:=fun x=>∃b,x=.bool b/\(b=false->∀i,(txt lb i).size<=10000)) h1 rfl ⟨rfl,rfl⟩ rfl (by simp only[go_sem];exact upW (Slow_ok hvb1.push (by omega) hsb)) ?_
 rintro _ ⟨slowb,rfl,hslb⟩
 cases slowb with
 |true=>simp(disch:=omega)only[go_sem,hfga,hlda,hfgb,hldb]
 |false=>
 have hszb:=hslb rfl
 simp(disch:=omega)only[go_sem,hfga,hlda,hfgb,hldb]
 obtain⟨n0,en0⟩:∃n0,h1.next=n0:=⟨_,rfl⟩
 refine eY (S:=[]) (R:=fun v h'=>v=.ptr (.obj (n0+3)) [] tDesk/\DQ h' (n0+3) (n0+2) (n0+1) n0 Lf.new/\h'.next=n0+4) rfl ⟨rfl,rfl⟩ (by simp only[go_sem];rw[←en0];exact upW y0) (fun v h1 e=>⟨e.1,e.2.1.pop,e.2.2⟩) ?_
 rintro _ h2 hF2 ⟨rfl,hQd,hn2⟩
 simp(disch:=omega)only[go_sem,hfga,hlda,hfgb,hldb]
 refine bK (v:=.ptr (.obj (h2.next+1)) [] tRD) ((h2.nw tBed (Bd.enc ⟨.blank,.blank,0,0,0,0,0⟩)).nw tRD (encRD [] h2.next)) rfl ⟨rfl,rfl⟩ rfl (by simp only[go_sem];exact Er) ?_
 simp(disch:=omega)only[go_sem,hfga,hlda,hfgb,hldb]
 have hF3:Fr h2 ((h2.nw tBed (Bd.enc ⟨.blank,.blank,0,0,0,0,0⟩)).nw tRD (encRD [] h2.next)) []:=Fr.nw.trans Fr.nw
 have hb3:((h2.nw tBed (Bd.enc ⟨.blank,.blank,0,0,0,0,0⟩)).nw tRD (encRD [] h2.next)).look (.obj h2.next)=some ⟨tBed,(bdOf Lf.new).enc⟩:=by
  rw[fv (by show¬h2.next=h2.next+1;omega)]
  exact d7
 have hr3:((h2.nw tBed (Bd.enc ⟨.blank,.blank,0,0,0,0,0⟩)).nw tRD (encRD [] h2.next)).look (.obj (h2.next+1))=some ⟨tRD,encRD [] h2.next⟩:=d7 (h:=h2.nw tBed (Bd.enc ⟨.blank,.blank,0,0,0,0,0⟩))
 have hn3:((h2.nw tBed (Bd.enc ⟨.blank,.blank,0,0,0,0,0⟩)).nw tRD (encRD [] h2.next)).next=n0+6:=by show h2.next+1+1=_;omega
 rw[hn2]at hb3 hr3⊢
 rw[hn2]at hF3 hn3
 generalize(h2.nw tBed (Bd.enc ⟨.blank,.blank,0,0,0,0,0⟩)).nw tRD (encRD [] (n0+4))=h3 at hF3 hb3 hr3 hn3⊢
 have hva3:=(hva1.fr hF2 hna).fr hF3 hna
 have hvb3:=(hvb1.fr hF2 hnb).fr hF3 hnb
 have hQ3:=hQd.fr hF3 (by simp) (by simp) (by simp) (by simp)
 refine Ee (a:=va) (b:=vb) (by simp only[go_sem]) (by simp only[go_sem]) hfa hfb ?_
 simp(disch:=omega)only[go_sem,hfga,hlda,hfgb,hldb]
 refine gv (α:=HP) 2 (fun i hp=>⟨[(5,.ptr (.obj (n0+3)) [] tDesk),(6,.ptr (.obj (n0+4+1)) [] tRD),(7,.sl (.stk cx.lvl 34) 0 2),(8,.int .i64 i)],[(34,⟨.arr 2 tSl,pairSl va vb⟩)],hp⟩)
  (fun i hp=>∃L f c bs,DQ hp (n0+3) (n0+2) f c L/\LTight L/\hp.look (.obj (n0+4+1))=some ⟨tRD,encRD bs (n0+4)⟩/\hp.look (.obj (n0+4))=some ⟨tBed,(bdOf L).enc⟩/\((f=n0+1/\c=n0)\/(n0+6<=f/\n0+6<=c))/\Txs hp cx.lvl va la/\Txs hp cx.lvl vb lb/\n0+6<=hp.next) h3 (by simp only[go_sem]<;>rfl)
  ⟨.new,n0+1,n0,[],hQ3,LTight.new,hr3,hb3,.inl ⟨rfl,rfl⟩,hva3,hvb3,by omega⟩ fun i hp hi hP ih=>?_
 by_cases hlt:i<2
 rotate_left
 ·obtain rfl:i=2:=by omega
  simp(disch:=omega)only[go_sem]
 obtain⟨L,f,c,bs,hQ,hT,hrd,hbd,hfc,hpa,hpb,hnx⟩:=hP
 obtain⟨v,ls,hat,hv,hno,hfit,hsz,hback⟩:∃v ls,(pairSl va vb).at [i]=some v/\Txs hp cx.lvl v ls/\notObj v/\tSl.fits v=true/\(∀i,(txt ls i).size<=10000)/\ls.length<=200:=by
  have:i=0\/i=1:=by omega
  rcases this with rfl|rfl
  ·exact⟨va,la,Cg _ _,hpa,hna,hfa,hsza,by omega⟩
  ·exact⟨vb,lb,Cf _ _,hpb,hnb,hfb,hszb,by omega⟩
 have hfg:=fun t=>hv.fg (t:=t)
 have hld:=fun t=>hv.ld (t:=t)
 have hln:=hv.len
 simp(disch:=omega)only[go_sem,hlt,hat,hfit,hfg,hld]
 refine eY (S:=[n0+3,n0+2,f,c]) (R:=fun v' h'=>∃f' c',v'=.tup (.cons (.str (bsL (mU L ls))) (.cons (eH (eE ls).1 (eE ls).2) .unit))/\DQ h' (n0+3) (n0+2) f' c' (k8 L ls)/\((f'=f/\c'=c)\/(hp.next<=f'/\hp.next<=c'))) rfl ⟨rfl,rfl⟩ (by simp only[go_sem];exact upW (C0 (by exact hl) hQ.push hT hv.push hno hsz)) (fun v h1 q=>by obtain⟨f',c',a1,a2,a3⟩:=q;exact⟨f',c',a1,a2.pop,a3⟩) ?_
 rintro _ h5 hF5 ⟨f',c',rfl,hQ5,hfc5⟩
 have hv5:=hv.fr hF5 hno
 have hrd5:h5.look (.obj (n0+4+1))=some ⟨tRD,encRD bs (n0+4)⟩:=hF5.look (by omega) (by simp;omega) hrd
 have hbd5:h5.look (.obj (n0+4))=some ⟨tBed,(bdOf L).enc⟩:=hF5.look (by omega) (by simp;omega) hbd
 have hpa5:=hpa.fr hF5 hna
 have hpb5:=hpb.fr hF5 hnb
 have hn5:=hF5.next
 simp(disch:=omega)only[go_sem,hlt,hat,hfit,hfg,hld]
 refine am rfl ⟨rfl,rfl⟩ (by simp only[go_sem];exact Au hv5.push (by omega) hsz) ?_
 simp(disch:=omega)only[go_sem,hlt,hat,hfit,hfg,hld]
 by_cases hz:(eE ls).1=0
 ·obtain⟨h150,hgood⟩:=wj.1 hz
  have eT:mU L ls=(runC L ls).1:=by rw[mU,if_pos hz]
  have eL:k8 L ls=(runC L ls).2:=by rw[k8,if_pos hz]
  have hR5:RK h5 h5 (n0+4+1) (n0+4) L bs:=⟨Fr.refl _ _,hrd5,hbd5,by omega,by omega,by omega⟩
  simp(disch:=omega)only[go_sem,hz,hlt,hat,hfit,hfg,hld]
  refine nN (R:=fun v' h1=>v'=.str (bsL (runC L ls).1)/\RK h5 h1 (n0+4+1) (n0+4) (runC L ls).2 (runC L ls).1) rfl ⟨rfl,rfl⟩ (by
   simp only[go_sem]
   exact(Hj (L:=L) (bs:=bs) (by exact hl) hR5.pushed hT hv5.push hno h150 hsz).mono fun v' h' q=>q.2.popped q.1) ?_
  rintro _ h6 ⟨rfl,hR6⟩
  have hF6:=hR6.fr
  have hn6:=hF6.next
  simp(disch:=omega)only[go_sem,eT,hz]
  refine ih _ h6 hlt ?_ ⟨(runC L ls).2,f',c',(runC L ls).1,?_,by rw[←eL];exact uT hT,hR6.rd,hR6.bd,?_,hpa5.fr hF6 hna,hpb5.fr hF6 hnb,by omega⟩
  ·simp only[go_sem]
  ·rw[←eL]
   exact hQ5.fr hF6 (by first|(simp;done)|(simp;omega)) (by first|(simp;done)|(simp;omega)) (by first|(simp;done)|(simp;omega)) (by first|(simp;done)|(simp;omega))
  ·omega
 ·have eT:mU L ls=[]:=by rw[mU,if_neg hz]
  have eL:k8 L ls=L:=by rw[k8,if_neg hz]
  have e0:bsL []=⟨#[]⟩:=rfl
  simp(disch:=omega)only[go_sem,hz,eT,e0,hlt,hat,hfit,hfg,hld]
  refine ih _ h5 hlt ?_ ⟨L,f',c',bs,by rw[←eL];exact hQ5,hT,hrd5,hbd5,?_,hpa5,hpb5,by omega⟩
  ·simp only[go_sem]
  ·omega
end
open Go.RowKit Go.ChangeShapes
section
variable{H:Type}{enc:TypeId×Value->H}{P:Program}
theorem ml(hl:laidOutB P=true){W W':World}{sp:Nat->Bool}(hB:Below W.heap.size W W'):∀{ts:List TypeId} {vs:List Value} {ds:List (DataW H)} {ps:List MemPlace},
  (∀t∈ts,P.readableRec t=true/\t<P.types.size)->DataW.TrodAll enc P W 0 (fun _=>true) true ts vs ds ps->(∀p∈ps,p.block<W.heap.size)->(∀p∈ps,sp p.block=true)->
  DataW.TrodAll enc P W' 0 sp true ts vs ds ps
 | [],vs,ds,ps,_,h,_,_=>by
  obtain⟨rfl,rfl,rfl⟩:=trodAll_nil h
  exact trodAll_mk0
 |t::ts,vs,ds,ps,ht,h,h1,h2=>by
  obtain⟨v,vs',d,ds',p,q,rfl,rfl,rfl,h3,h4⟩:=trodAll_cons h
  exact⟨p,q,WideElems.Trod_stays hl (ht t List.mem_cons_self).1 (ht t List.mem_cons_self).2 h3 (fun x hx=>hB.same (h1 x (List.mem_append_left _ hx))) (fun x hx=>h2 x (List.mem_append_left _ hx)),
   ml hl hB (fun t' ht'=>ht t' (List.mem_cons_of_mem _ ht')) h4 (fun x hx=>h1 x (List.mem_append_right _ hx)) (fun x hx=>h2 x (List.mem_append_right _ hx)),rfl⟩
theorem Bw{f:Func}{s:ChangeSpec}{tb:TypeId}{W W':World}{args:Array Value}{ds gs:List (DataW H)}{before:List MemPlace}(hl:laidOutB P=true)(hts:∀t∈f.params.toList,P.readableRec t=true/\t<P.types.size)
  (hv:s.vars=[]) (hr:f.resultTypes=#[tb]) (hb:P.underlying tb=some .bool)
  (hW:DataW.Whole enc P f.params.toList s.vars false W args.toList ds gs before) (hs:s.fn H ds={results:=[.lit (.bool true)],args:=ds}) (hB:Below W.heap.size W W'):
  s.post enc P f false true false false W args (.bool true) W':=by
 have hlt:=hW.lt
 obtain⟨p,q,hA,hV,rfl,hfz,hnd⟩:=id hW
 rw[hv]at hV
 obtain⟨rfl,rfl⟩:=trodVars_none hV
 refine⟨ds,[],p++[],[],p,[],hW,?_,?_,?_,hB.frame _,fun h=>by cases h⟩
 ·rw[hr,List.append_nil,hs]
  exact trodAll_cons_mk (shut_bool hb _) trodAll_mk0
 ·rw[List.append_nil,hs]
  exact ml hl hB hts hA (fun x hx=>hlt x (by simpa using hx)) (fun x hx=>by simpa using hlt x (by simpa using hx))
 ·rw[hv,List.append_nil,hs]
  rfl
end
theorem Ec(h:tS.fits v=true):∃n,v=.str n:=by
 cases v<;>simp[tS,Ty.fits,LK.fits,AV.safe]at h
 exact⟨_,rfl⟩
open Go.RowKit Go.ChangeShapes
def HP.args(f:Nat->Option Blk):HP:=⟨fun _=>[],fun _=>none,0,f⟩
def betaA(g:Nat->Option Place):Beta
 | .arg n=>g n
 |_=>none
def ru(P:Program)(ks:List LK)(e:TypeId):Bool:=
 match P.underlying e with
 |some (.struct fs)=>Go.Deep.oneCellFields P fs&&(P.cellsOf e==fs.size)&&(fs.toList.map (fun f=>ot (P.underlying f.type))==ks.map some)
 |d=>(P.cellsOf e==1)&&(match ot d with|some k=>ks==[k]|none=>false)
variable{t:Ty}
section
variable{H:Type}{enc:TypeId×Value->H}{P:Program}{w:World}{base:Nat}{spare:Nat->Bool}{held:Bool}{φ:Nat->Option FuncId}{β:Beta}
theorem FB{k:IntKind}{n:Int}(h:(Lit.int k n).wf=true):k.has n:=by
 simp only[Lit.wf,Bool.and_eq_true,decide_eq_true_eq]at h
 exact h
theorem zP(h:n<=maxLen):(n:Int)<=IntKind.i64.max:=by
 have:IntKind.i64.max=2^63-1:=by decide
 rw[this]
 unfold maxLen at h
 omega
theorem sQ{u:TypeId}{k:LK}{cs:List Value}{y:DataW H×List MemPlace}(hk:ot (P.underlying u)=some k)(h:DataW.trod enc P w base spare held n u cs=some y):∃x,cs=[x]/\okCell k x:=by
 unfold ot at hk
 split at hk<;>simp at hk<;>subst hk<;>rename_i hu
 ·cases n with
  |zero=>simp[DataW.trod]at h
  |succ n=>
   unfold DataW.trod at h
   rw[hu]at h
   match cs,h with
   | [.bool b],_=>exact⟨_,rfl,b,rfl⟩
 ·obtain⟨s,rfl,_,hs⟩:=DataW.trod_string hu h
  exact⟨_,rfl,s,rfl,zP hs⟩
 ·obtain⟨m,rfl,_,hs⟩:=DataW.trod_int hu h
  exact⟨_,rfl,m,rfl,FB hs⟩
theorem Ac{e:TypeId}{ks:List LK}{cs:List Value}{y:DataW H×List MemPlace}(hk:ru P ks e=true)(h:DataW.trod enc P w base spare held n e cs=some y):All2 okCell ks cs:=by
 unfold ru at hk
 split at hk
 ·rename_i fs hu
  simp only[Bool.and_eq_true,beq_iff_eq]at hk
  obtain⟨⟨h1,h2⟩,h3⟩:=hk
  obtain⟨xs,m,rfl,rfl,hl,hxl,hf⟩:=DataW.trod_struct hu h
  have hone:=Go.Deep.hone_of h1
  have hkl:ks.length=fs.size:=by simpa using(congrArg List.length h3).symm
  refine⟨by omega,fun i k x hi hx=>?_⟩
  have hi':i<fs.size:=by
   rcases Nat.lt_or_ge i ks.length with h|h
   ·omega
   ·rw[List.getElem?_eq_none h]at hi;simp at hi
  have hfi:fs[i]?=some fs[i]:=Array.getElem?_eq_getElem hi'
  obtain⟨ho,hc1⟩:=hone i _ hfi
  have g:=hf i _ hfi
  rw[ho,hc1,Go.Deep.take1_drop cs i undef (by omega),List.getElem?_eq_getElem (by omega)]at g
  have hki:ot (P.underlying fs[i].type)=some k:=by
   have:=congrArg (fun l=>l[i]?) h3
   simp only[List.getElem?_map,hi,Array.getElem?_toList,hfi,Option.map_some]at this
   simpa using this
  obtain⟨x',e1,e2⟩:=sQ hki g
  have:cs.getD i undef=x:=by simp[List.getD,hx]
  rw[this]at e1
  simp at e1
  subst e1;exact e2
 ·simp only[Bool.and_eq_true,beq_iff_eq]at hk
  obtain⟨_,hk⟩:=hk
  cases hq:ot (P.underlying e)with
  |none=>rw[hq]at hk;simp at hk
  |some k=>
   rw[hq]at hk
   simp at hk
   subst hk
   obtain⟨x,rfl,hx⟩:=sQ hq h
   exact All2.cons hx All2.nil
variable[Tk]
structure SliceAt[Tk](φ:Nat->Option FuncId)(W:World)(t:Ty)(l:List AV)(x:Value)(pl:Place):Prop where
 ty:pl.ty=.arr l.length t
 val:∀(g:Nat->Option Place) n,g n=some pl->VR φ (betaA g) (.sl (.arg n) 0 l.length) x
 blk:∀(g:Nat->Option Place) (O:Nat->Prop) n,g n=some pl->∃cs T fr,BR φ (betaA g) O (.arg n) ⟨.arr l.length t,.ofList l⟩ W pl cs T fr
theorem we{l:List AV}(h:∀v∈l,t.fits v=true):(Ty.arr l.length t).fits (.ofList l)=true:=by
 simp only[AV.ofList,Ty.fits,beq_self_eq_true,Bool.true_and,List.all_eq_true]
 exact fun i _=>h _ (List.get_mem ..)
theorem wa{U e:TypeId}{r:Reach}{b:Nat}{x:Value}{d:DataW H}{ps:List MemPlace}(hu:P.underlying U=some (.slice e))(hk:ru P t.kinds e=true)(hs:P.cellsOf e=t.size)(hp:0<t.size)
  (hok:Value.okWide P w r b U x) (h:DataW.Trod enc P w 0 (fun _=>true) true U x d ps):
  ∃l:List AV,(∀v∈l,t.fits v=true/\v.ranged)/\((l=[]/\(x=.slice none 0 0\/∃a cap,x=.slice (some a) 0 cap))\/∃pl,SliceAt φ w t l x pl):=by
 obtain⟨fuel,h⟩:=h
 have hx:Cell.okWide P w r b U x:=by unfold Value.okWide at hok;rw[hu]at hok;exact hok
 have hx':Cell.ok P w r b U x:=by
  unfold Cell.okWide at hx
  rw[hu]at hx
  cases x<;>exact hx
 have hx'':x=.slice none 0 0\/∃a len cap,x=.slice (some a) len cap/\len<=cap/\a.spot=none:=by
  unfold Cell.ok at hx'
  rw[hu]at hx'
  cases x with
  |slice a len cap=>
   cases a with
   |none=>
    cases len<;>cases cap<;>simp at hx'
    exact .inl rfl
   |some a=>exact .inr ⟨a,len,cap,rfl,hx'.1,hx'.2.2.2.1⟩
  |_=>simp at hx'
 rcases hx'' with rfl|⟨a,len,cap,rfl,hlc,hspot⟩
 ·exact⟨[],by simp,.inl ⟨rfl,.inl rfl⟩⟩
 by_cases h0:len=0
 ·subst h0
  exact⟨[],by simp,.inl ⟨rfl,.inr ⟨a,cap,rfl⟩⟩⟩
 rcases Go.Deep.open_slice hu h with⟨h1,_⟩|⟨a',len',cap',m,n,D,Pl,h1,_,_,hcm,hm,_,hel⟩
 ·simp[Value.cells]at h1
 simp[Value.cells]at h1
 obtain⟨rfl,rfl,rfl⟩:=h1
 simp only[if_true]at hm
 subst hm
 rw[hs]at hel
 obtain⟨br,off,spot⟩:=a
 simp only at hspot
 subst hspot

 obtain⟨cs0,hc0,_⟩:=hel 0 (by omega)
 obtain⟨_,hl0,hcell0⟩:=World.cells?_some hc0
 have hb0:=hcell0 0 hp
 rw[List.getElem?_eq_getElem (by omega)]at hb0
 obtain⟨cs,T,fr,hheap⟩:∃cs T fr,w.heap[br]?=some (.cells cs T fr):=by
  have hblk:((Addr.mk br off none).add (0*t.size)).add 0=⟨br,off,none⟩:=by simp[Addr.add]
  rw[hblk]at hb0
  unfold World.cell? at hb0
  split at hb0
  ·exact⟨_,_,_,by assumption⟩
  ·simp at hb0
 have hcell:∀i,i<m->∀k,k<t.size->∀ci,w.cells? 0 ((Addr.mk br off none).add (i*t.size)) t.size=some ci->cs[off+i*t.size+k]?=ci[k]?:=by
  intro i hi k hkt ci hci
  obtain⟨_,hl,hcell⟩:=World.cells?_some hci
  rw[←hcell k hkt]
  have:((Addr.mk br off none).add (i*t.size)).add k=⟨br,off+i*t.size+k,none⟩:=by
   unfold Addr.add
   by_cases e1:i*t.size=0<;>by_cases e2:k=0<;>simp[e1,e2]
  rw[this]
  simp[World.cell?,hheap]
 obtain⟨V,hV⟩:=Go.Deep.choose_lt (α:=AV) (n:=len) (p:=fun i v=>t.fits v=true/\v.ranged/\∀(β:Beta) k c,v.flat[k]?=some c->∃x,cs[off+i*t.size+k]?=some x/\LR φ β c x) (fun i hi=>by
  obtain⟨ci,hci,hti⟩:=hel i (by omega)
  obtain⟨_,hlci,_⟩:=World.cells?_some hci
  obtain⟨v,hf,hl,hr⟩:=build (φ:=φ) (β:=fun _=>none) t ci (Ac hk hti)
  refine⟨v,hf,hr,fun β k c hc=>?_⟩
  have hkt:k<t.size:=by
   rcases Nat.lt_or_ge k v.flat.length with h|h
   ·rw[Ty.fits_length hf]at h;exact h
   ·rw[List.getElem?_eq_none h]at hc;simp at hc
  refine⟨ci[k]'(by omega),?_,?_⟩
  ·rw[hcell i (by omega) k hkt ci hci,List.getElem?_eq_getElem (by omega)]
  ·have:=hl.2 k c _ hc (List.getElem?_eq_getElem (by omega))
   exact rR (fun i pl _ h=>by simp at h) this)
 refine⟨(List.range len).map V,fun v hv=>?_,.inr ⟨⟨br,off,.arr len t,m*t.size⟩,by simp,fun g n hg=>?_,fun g O n hg=>⟨cs,T,fr,?_⟩⟩⟩
 ·obtain⟨i,hi,rfl⟩:=List.mem_map.1 hv
  obtain⟨h1,h2,_⟩:=hV i (List.mem_range.1 hi)
  exact⟨h1,h2⟩
 ·refine VR_of_VR1 ?_
  simp only[VR1,AV.isAgg,Bool.false_eq_true,if_false,LR,AV.rel,List.length_map,List.length_range]
  exact⟨_,len,t,m,hg,rfl,by omega,by omega,by simp,by simp⟩
 ·have hfits:(Ty.arr ((List.range len).map V).length t).fits (.ofList ((List.range len).map V))=true:=we fun v hv=>by
   obtain⟨i,hi,rfl⟩:=List.mem_map.1 hv
   exact(hV i (List.mem_range.1 hi)).1
  refine⟨hg,by simp,hfits,hheap,?_,?_,?_,fun h=>by simp[Id.isArg]at h,fun h=>by simp[Id.isArg]at h⟩
  ·
   obtain⟨ci,hci,_⟩:=hel (m-1) (by omega)
   obtain⟨_,hlci,_⟩:=World.cells?_some hci
   have:=hcell (m-1) (by omega) (t.size-1) (by omega) ci hci
   rw[List.getElem?_eq_getElem (by omega)]at this
   obtain⟨hlt,_⟩:=Array.getElem?_eq_some_iff.1 this
   show off+m*t.size<=cs.size
   have e:m*t.size=(m-1)*t.size+t.size:=by
    have:m=(m-1)+1:=by omega
    calc m*t.size=((m-1)+1)*t.size:=by rw[←this]
     _=_:=by rw[Nat.add_mul,Nat.one_mul]
   omega
  ·simp only[Ty.size,List.length_map,List.length_range]
   exact Nat.mul_le_mul_right _ hlc
  ·intro k c hc
   have hflat:(AV.ofList ((List.range len).map V)).flat=(List.range len).flatMap fun i=>(V i).flat:=by
    rw[wE,List.flatMap_map]
   rw[hflat]at hc
   have hlen:∀i∈List.range len,((V i).flat).length=t.size:=fun i hi=>Ty.fits_length (hV i (List.mem_range.1 hi)).1
   have hk:k/t.size<len:=by
    have hkl:k<((List.range len).flatMap fun i=>(V i).flat).length:=by
     rcases Nat.lt_or_ge k ((List.range len).flatMap fun i=>(V i).flat).length with h|h
     ·exact h
     ·rw[List.getElem?_eq_none h]at hc;simp at hc
    have hll:((List.range len).flatMap fun i=>(V i).flat).length=len*t.size:=by
     rw[List.length_flatMap,List.map_congr_left hlen,List.map_const',List.sum_replicate_nat,List.length_range]
    rw[hll]at hkl
    exact(Nat.div_lt_iff_lt_mul hp).2 hkl
   have e:=cv (List.range len) (fun i=>(V i).flat) t.size hlen (k/t.size) (by simpa using hk) (k%t.size) (Nat.mod_lt _ hp)
   have ek:k/t.size*t.size+k%t.size=k:=by rw[Nat.mul_comm];exact Nat.div_add_mod k t.size
   rw[ek]at e
   rw[e]at hc
   simp only[List.getElem_range]at hc
   obtain⟨y,hy,hyl⟩:=(hV (k/t.size) hk).2.2 (betaA g) (k%t.size) c hc
   refine⟨y,?_,hyl⟩
   show cs[off+k]?=some y
   rw[←hy]
   congr 1
   omega
end
section
variable{P:Program}{T:MTb}
theorem Bv{φ:Nat->Option FuncId}{fuel F:Nat}{args:List AV}{rargs:List Value}{hp:HP}{bf:Nat->Option Blk}{g:Nat->Option Place}{Cond:World->Prop}(hT:∀W,Cond W->@TblOk (fixAt P W) P T φ drawOk)(hmo:P.follows .mixedOrders=true)(hf:T f=some fn)(hF:φ f=some F)(hfree:fn.nfree=0)
  (hrun:pr T fuel f args (HP.args bf)=some (v,hp)) (hlen:args.length=fn.params) (ha:All2 (VR φ (betaA g)) args rargs) (W:World) (hC:Cond W)
  (hB:∀n b,bf n=some b->∃pl cs T fr,@BR (fixAt P W).toTk φ (betaA g) (fun r=>W.heap.size<=r) (.arg n) b W pl cs T fr):
  Calls P F rargs.toArray W fun e W'=>(∃x β',e=.returned x/\VR φ β' v x)/\Below W.heap.size W W':=by
 unfold pr at hrun
 rw[hf]at hrun
 simp only at hrun
 cases hr:run T fuel ⟨0,⟨0,0⟩⟩ [.code fn.body] (St.enter args (HP.args bf))with
 |none=>simp[hr]at hrun
 |some s2=>
  simp only[hr,Option.map_eq_some_iff]at hrun
  obtain⟨v',hv,he⟩:=hrun
  simp at he
  obtain⟨rfl,_⟩:=he
  have hst:∀i b,(HP.args bf).look i=some b->∃n,i=.arg n/\bf n=some b:=by
   intro i b hb
   cases i with
   |stk l t=>simp[HP.args,HP.look,Own.get]at hb
   |obj n=>simp[HP.args,HP.look]at hb
   |arg n=>exact⟨n,rfl,hb⟩
  letI:Fix:=fixAt P W
  have:=yQ (hT W hC) (tn (hT W hC) hmo) fuel fn F (hT W hC f fn F hf hF) ⟨0,⟨0,0⟩⟩ args (HP.args bf) s2 v' (betaA g) (fun r=>W.heap.size<=r) rargs W hr hv (by simp[hlen,hfree]) ha
   ⟨fun i b hb=>by obtain⟨n,rfl,h⟩:=hst i b hb;exact hB n b h,fun i j bi bj pi pj hi hj _ _ _ _=>by
    obtain⟨n,rfl,_⟩:=hst i bi hi
    obtain⟨m,rfl,_⟩:=hst j bj hj
    exact⟨rfl,rfl⟩⟩ (fun i pl h=>by cases i<;>simp[betaA]at h<;>trivial) (fun _ _=>rfl) (fun r h=>h) (yC P W)
  refine this.mono fun e W' h=>?_
  obtain⟨x,β',rfl,hvx,_,hA⟩:=h
  exact⟨⟨x,β',rfl,hvx⟩,hA.same.os,hA.same.tape,hA.same.output,hA.same.size,fun k hk=>hA.same.block k hk (by omega)⟩
theorem xA{φ:Nat->Option FuncId}{F:Nat}{bf:Nat->Option Blk}{g:Nat->Option Place}{Cond:World->Prop}(hT:∀W,Cond W->@TblOk (fixAt P W) P T φ drawOk)(hmo:P.follows .mixedOrders=true)(hf:T f=some fn)(hF:φ f=some F)(hfree:fn.nfree=0)
  {args:Array Value} {avs:List AV} (W:World) (hC:Cond W) (ha:All2 (VR φ (betaA g)) avs args.toList) (hlen:avs.length=fn.params) (hB:∀n b,bf n=some b->∃pl cs T fr,@BR (fixAt P W).toTk φ (betaA g) (fun r=>W.heap.size<=r) (.arg n) b W pl cs T fr)
  (h:Ok T ⟨0,⟨0,0⟩⟩ fn (St.enter avs (HP.args bf)) fun v _=>v=.bool true):
  Calls P F args W fun e W'=>e=.returned (.bool true)/\Below W.heap.size W W':=by
 obtain⟨n,s',v,hr,hv,rfl⟩:=h
 have hr':pr T n f avs (HP.args bf)=some (.bool true,s'.hp):=by simp only[pr,hf,hr,hv];rfl
 have:=Bv hT hmo hf hF hfree hr' hlen ha W hC hB
 rw[Array.toArray_toList]at this
 refine this.mono fun e W' h=>⟨?_,h.2⟩
 obtain⟨⟨x,β',rfl,hv⟩,_⟩:=h
 simp[VR,VR1,AV.isAgg,LR,AV.rel]at hv
 rw[hv]
end
open Go.RowKit Go.ChangeShapes
theorem wv{α:Type}{t:Ty}{f:α->AV}(hd:∀v,t.fits v=true->∃a,v=f a):∀l:List AV,(∀v∈l,t.fits v=true)->∃L:List α,l=L.map f
 | [],_=>⟨[],rfl⟩
 |v::l,h=>by
  obtain⟨a,rfl⟩:=hd v (h v List.mem_cons_self)
  obtain⟨L,rfl⟩:=wv hd l fun w hw=>h w (List.mem_cons_of_mem _ hw)
  exact⟨a::L,rfl⟩
theorem zS:∀n,(⟨0,⟨0,0⟩⟩:Cx).prot.lets (.obj n)=true:=fun n=>decide_eq_true (Nat.zero_le n)
def two2{α:Type}(a b:Option α):Nat->Option α:=fun n=>if n=0 then a else if n=1 then b else none
open Go.RowKit
theorem jE{T:MTb}{n:Nat}{cx:Cx}{k:List Item}{s r:St}(h:run T n cx k s=some r):∀m,run T (n+m) cx k s=some r
 |0=>h
 |m+1=>vl (jE h m)
variable{s' s2:St}
theorem CT(hr:run T m cx [.code Fn.db.body] (St.enter [a] h)=some s2)(hv:results cx s2 Fn.db.res=some v):
  ∃n,a=.int .i64 n/\i64 n/\v=.str ⟨(bz n).toArray⟩/\s2.own=[]/\s2.hp=h:=by
 have h1:=jE hr 6
 rw[show m+6=m+1+1+1+1+1+1 from rfl]at h1
 simp only[run,next,St.wanted,opCmd,evOp,evK,Bool.false_and,Bool.false_eq_true,if_false,List.map_cons,List.map_nil,St.opd,Slots.get,St.enter,enterSlots,if_true]at h1
 cases hp:vA [a]with
 |none=>simp[hp]at h1
 |some y=>
  have hp':=hp
  unfold vA at hp
  split at hp
  ·rename_i n e
   simp only[List.cons.injEq,and_true]at e
   split at hp<;>simp only[Option.some.injEq,reduceCtorEq]at hp
   rename_i hn
   subst hp
   simp only[hp',AV.safe,if_true,ax,next,St.setd,Slots.set,St.kill,Option.some.injEq]at h1
   subst h1
   simp only[results,resOf,Slots.get,Slots.without]at hv
   refine⟨n,e,hn,?_,rfl,rfl⟩
   simpa[AV.safe,Slots.get,Slots.without,List.filter,has]using hv.symm
  ·simp at hp
theorem vk{s:St}:run T (n+1) cx k s=match next T cx k s with
  | .done s=>some s
  | .fail=>none
  | .go k s=>run T n cx k s
  | .call cx' hide fn e d k s=>match run T n cx' [.code fn.body] e with
   |some s'=>match back cx cx' hide fn d s s' with
    |some s=>run T n cx k s
    |none=>none
   |none=>none:=rfl
variable{xs:List Opd}
theorem oc{f:List AV->Option AV}{kill:List Nat}{r:List MOp}{s:St}(h:f (xs.map s.opd)=some v)(hs:v.safe=true):
  next T cx (.ops (⟨some d,.prim f xs,none⟩::r) kill::k) s=.go (.ops r kill::k) (s.setd (some d) v):=by
 simp only[next,St.wanted,opCmd,evOp,evK,h,hs,if_true,ax]
theorem lp{f:List AV->Option AV}{kill:List Nat}{r:List MOp}{s:St}(h:f (xs.map s.opd)=none):
  next T cx (.ops (⟨some d,.prim f xs,none⟩::r) kill::k) s=.fail:=by
 simp only[next,St.wanted,opCmd,evOp,evK,h]
theorem Hk{b c:AV}(hr:run T m cx [.code Fn.cu.body] (St.enter [a,b,c] h)=some s2)(hv:results cx s2 Fn.cu.res=some v):
  ∃t:ByteArray,a=.str t/\b=.int .i64 16/\c=.int .i64 8/\t.size=2/\v=.tup (.cons (.int .u64 ((hex2 t).getD 0)) (.cons (.iface (hex2 t).isNone) .unit))/\s2.own=[]/\s2.hp=h:=by
 have h1:run T (m+5) cx [.ops [⟨some 3,.prim pPu [(.s 0),(.s 1),(.s 2)],none⟩,⟨some 4,.prim pPe [(.s 0),(.s 1),(.s 2)],none⟩] [],.code .ret] (St.enter [a,b,c] h)=some s2:=jE hr 7
 rw[vk]at h1
 cases hp:pPu [a,b,c]with
 |none=>rw[lp hp]at h1;simp at h1
 |some y=>
  have hp':=hp
  unfold pPu at hp
  split at hp
  ·rename_i t e
   simp only[List.cons.injEq,and_true]at e
   obtain⟨rfl,rfl,rfl⟩:=e
   split at hp<;>simp only[Option.some.injEq,reduceCtorEq]at hp
   rename_i ht
   subst hp
   rw[oc hp' rfl]at h1
   have h2:run T (m+4) cx [.ops [⟨some 4,.prim pPe [(.s 0),(.s 1),(.s 2)],none⟩] [],.code .ret] ((St.enter [.str t,.int .i64 16,.int .i64 8] h).setd (some 3) (.int .u64 ((hex2 t).getD 0)))=some s2:=h1
   have hq:pPe [.str t,.int .i64 16,.int .i64 8]=some (.iface (hex2 t).isNone):=by simp only[pPe];rw[if_pos ht]
   rw[vk,oc hq rfl]at h2
   have h3:some _=some s2:=h2
   have h4:=Option.some.inj h3
   subst h4
   exact⟨t,rfl,rfl,rfl,ht,(Option.some.inj hv).symm,rfl,rfl⟩
  ·simp at hp
theorem zK{kill:List Nat}{r:List MOp}{s:St}:
  next T cx (.ops (⟨some d,.load false none t x,none⟩::r) kill::k) s=match evOp cx (some d) (.load false none t x) s with
   |some (v,s')=>.go (.ops r kill::k) (s'.setd (some d) v)
   |none=>.fail:=rfl
theorem ny{d:Option Nat}{s:St}(h:evOp cx d (.load false none t x) s=some (v,s')):s'=s/\∃i p,s.opd x=.ptr i p t/\((s.look cx i).bind fun b=>b.val.at p)=some v/\t.fits v=true:=by
 unfold evOp at h
 simp only[evK]at h
 split at h
 ·rename_i e he
  split at he
  ·rename_i i p t' hx
   split at he
   ·rename_i hc
    split at he
    ·rename_i u hu
     split at he
     ·rename_i hf
      simp only[Option.some.injEq]at he
      subst he
      simp only[ax,Option.some.injEq,Prod.mk.injEq]at h
      obtain⟨rfl,rfl⟩:=h
      exact⟨rfl,i,p,by rw[hx,hc.1],hu,hf⟩
     ·simp at he
    ·simp at he
   ·simp at he
  ·simp at he
 ·simp at h
theorem Av(hr:run T m cx [.code Fn.ep.body] (St.enter [a] h)=some s2)(hv:results cx s2 Fn.ep.res=some v):
  ∃i p img b,a=.ptr i p ac/\h.look i=some b/\b.val.at p=some img.enc/\img.slim/\v=.str ⟨(textL img).toArray⟩/\s2.own=[]/\s2.hp=h:=by
 have h1:run T (m+5) cx [.ops [⟨some 1,.load false none ac (.s 0),none⟩,⟨some 2,.prim mI [(.s 1)],none⟩] [],.code .ret] (St.enter [a] h)=some s2:=jE hr 7
 rw[vk,zK]at h1
 cases he:evOp cx (some 1) (.load false none ac (.s 0)) (St.enter [a] h)with
 |none=>rw[he]at h1;simp at h1
 |some q=>
  obtain⟨u,s'⟩:=q
  rw[he]at h1
  obtain⟨rfl,i,p,hx,hu,hf⟩:=ny he
  have h2:run T (m+4) cx [.ops [⟨some 2,.prim mI [(.s 1)],none⟩] [],.code .ret] ((St.enter [a] h).setd (some 1) u)=some s2:=h1
  rw[vk]at h2
  cases hp:mI [u]with
  |none=>rw[lp hp]at h2;simp at h2
  |some y=>
   have hp':=hp
   unfold mI at hp
   split at hp
   ·rename_i w e
    simp only[List.cons.injEq,and_true]at e
    subst e
    split at hp
    ·rename_i hm
     simp only[Option.some.injEq]at hp
     subst hp
     rw[oc hp' rfl]at h2
     have h3:some _=some s2:=h2
     have h4:=Option.some.inj h3
     subst h4
     obtain⟨b,hb1,hb2⟩:=Option.bind_eq_some_iff.1 hu
     refine⟨i,p,hm.choose,b,hx,?_,hb2.trans (congrArg some hm.choose_spec.1),hm.choose_spec.2,(Option.some.inj hv).symm,rfl,rfl⟩
     unfold St.look at hb1
     split at hb1
     ·simp[St.enter,Own.get]at hb1
     ·exact hb1
    ·simp at hp
   ·rename_i hne;exact(hne u rfl).elim
open Go.RowKit
variable{F:FuncId}
section
variable{φ:Nat->Option FuncId}{β:Beta}{P:Program}{O:Nat->Prop}{w w':World}{look:Id->Option Blk}
theorem CX[Tk](h:HR φ β O look w)(hb:Below w.heap.size w w'):HR φ β O look w':=
 ⟨fun i b hl=>by
  obtain⟨pl,cs,T,fr,hB⟩:=h.live i b hl
  exact⟨pl,cs,T,fr,hB.place,hB.ty,hB.fits,(hb.block pl.r (Array.getElem?_eq_some_iff.1 hB.heap).1).trans hB.heap,hB.room,hB.size,hB.cells,hB.own,hB.kind⟩,h.apart⟩
theorem iq[Fix](hm:HR φ β O h.look w)(hdom:∀i pl,β i=some pl->i.under cx.lvl h.next)(htop:∀l,cx.lvl<=l->h.stk l=[])(hown:s2.own=[])(hhp:s2.hp=h)(hb:Below w.heap.size w w'):
  After φ O β cx.lvl h.next w (s2.look cx) s2.hp.next s2.hp.stk β w':=by
 subst hhp
 refine⟨ie (CX hm hb) fun i b hl=>?_,⟨hb.os,hb.tape,hb.output,hb.size,fun r hr _=>hb.block r hr⟩,Ext.refl,Nat.le_refl _,fun i pl hp=>?_,htop⟩
 ·unfold St.look at hl
  split at hl
  ·rw[hown]at hl;simp[Own.get]at hl
  ·exact hl
 ·have:=hdom i pl hp
  cases i<;>simp only[Id.under]at this⊢ <;>omega
theorem LP[Fix](hf:∃f c,P.funcs[F]?=some f/\f.body=some c/\(f.name== "runtime.NumGoroutine")=false)
  (hraw:∀O w,Fix.I O w->∀n,i64 n->Calls P F #[.int .i64 n] w fun e w'=>e=.returned (.string ⟨(bz n).toArray⟩)/\Below w.heap.size w w'):gh P T φ F Fn.db:=by
 refine⟨hf,fun m cx args h s2 v β O rargs w hr hv hlen ha hm hdom htop hfresh hinv=>?_⟩
 match args,hlen with
 | [a],_=>
  obtain⟨n,rfl,hn,rfl,ho,hh⟩:=CT hr hv
  obtain⟨x,rfl⟩:∃x,rargs=[x]:=by
   have:=ha.1
   match rargs,this with
   | [x],_=>exact⟨x,rfl⟩
  have hx:=gj (ha.2 0 _ _ rfl rfl)
  subst hx
  refine(hraw O w hinv n hn).mono ?_
  rintro e w' ⟨rfl,hb⟩
  exact⟨_,β,rfl,VR_of_VR1 (by simp[VR1,AV.isAgg,LR,AV.rel]),by simp[AV.resOk,AV.safe],iq hm hdom htop ho hh hb⟩
theorem PuX[Fix](hf:∃f c,P.funcs[F]?=some f/\f.body=some c/\(f.name== "runtime.NumGoroutine")=false)
  (hraw:∀O w,Fix.I O w->∀t:ByteArray,t.size=2->Calls P F #[.string t,.int .i64 16,.int .i64 8] w fun e w'=>
   (match hex2 t with
    |some n=>e=.returned (.tuple #[.int .u64 n,.nilIface])
    |none=>∃u x,e=.returned (.tuple #[.int .u64 0,.iface u x]))/\Below w.heap.size w w'):gh P T φ F Fn.cu:=by
 refine⟨hf,fun m cx args h s2 v β O rargs w hr hv hlen ha hm hdom htop hfresh hinv=>?_⟩
 match args,hlen with
 | [a,b,c],_=>
  obtain⟨t,rfl,rfl,rfl,ht,rfl,ho,hh⟩:=Hk hr hv
  obtain⟨x,y,z,rfl⟩:∃x y z,rargs=[x,y,z]:=by
   have:=ha.1
   match rargs,this with
   | [x,y,z],_=>exact⟨x,y,z,rfl⟩
  have hx:=gi (ha.2 0 _ _ rfl rfl)
  have hy:=gj (ha.2 1 _ _ rfl rfl)
  have hz:=gj (ha.2 2 _ _ rfl rfl)
  subst hx hy hz
  refine(hraw O w hinv t ht).mono ?_
  rintro e w' ⟨he,hb⟩
  cases hq:hex2 t with
  |some n=>
   rw[hq]at he
   simp only at he
   subst he
   exact⟨_,β,rfl,⟨_,rfl,rfl,by simp[VR1,AV.isAgg,LR,AV.rel],rfl,by simp[VR1,AV.isAgg,LR,AV.rel],trivial⟩,.inr ⟨_,rfl⟩,iq hm hdom htop ho hh hb⟩
  |none=>
   rw[hq]at he
   obtain⟨u,x,rfl⟩:=he
   exact⟨_,β,rfl,⟨_,rfl,rfl,by simp[VR1,AV.isAgg,LR,AV.rel],rfl,by simp[VR1,AV.isAgg,LR,AV.rel],trivial⟩,.inr ⟨_,rfl⟩,iq hm hdom htop ho hh hb⟩
def sR:AV->Value
 | .bool b=>.bool b
 | .int k n=>.int k n
 | .str s=>.string s
 |_=>undef
def AV.plainLeaf:AV->Bool
 | .bool _=>true
 | .int ..=>true
 | .str _=>true
 |_=>false
theorem CR{c:AV}{x:Value}(hc:c.plainLeaf=true)(h:LR φ β c x):x=sR c:=by
 cases c<;>simp[AV.plainLeaf]at hc<;>exact h
def yz(i:Ino):List Value:=[.bool i.live,.int .i64 i.stamp,.int .i64 i.links,.int .i64 (i.prt 0),.int .i64 (i.prt 1)]
def B4(e:Ent):List Value:=[.string e.name,.int .i64 e.ino,.int .i64 e.stamp]
def yL(y:Dat):List Value:=[.int .i64 y.of,.string y.text]
def inosCs(m:Img):List Value:=(List.range 8).flatMap fun n=>yz (m.ino n)
def rowCs(m:Img)(d:Nat):List Value:=(List.range 4).flatMap fun s=>B4 (m.ent d s)
def datsCs(m:Img):List Value:=(List.range 9).flatMap fun x=>yL (m.dat x)
theorem mb{α:Type}{g:Fin n->List α}{f:Nat->List α}(h:∀i:Fin n,g i=f i.val):(List.finRange n).flatMap g=(List.range n).flatMap f:=by
 have:g=fun i=>f i.val:=funext h
 have e:(List.finRange n).map Fin.val=List.range n:=List.ext_getElem (by simp) fun i h1 h2=>by simp
 rw[this,←e,List.flatMap_map]
theorem BB(m:Img):m.enc.flat.map sR=inosCs m++((List.range 3).flatMap (rowCs m)++datsCs m):=by
 simp only[Img.enc,AV.flat,bF,List.append_nil,List.map_append,List.map_flatMap]
 rw[mb (f:=fun n=>yz (m.ino n)),mb (f:=rowCs m),mb (f:=fun x=>yL (m.dat x))]
 ·rfl
 ·intro x
  show List.map sR (Dat.enc m.data[x.val]).flat=_
  rw[B9];rfl
 ·intro d
  exact mb fun s=>by
   show List.map sR (Ent.enc (m.dir[d.val])[s.val]).flat=_
   rw[B3];rfl
 ·intro n
  show List.map sR (Ino.enc m.inode[n.val]).flat=_
  rw[BA];rfl
theorem zV(m:Img):∀c∈m.enc.flat,c.plainLeaf=true:=by
 simp only[Img.enc,AV.flat,bF,List.append_nil,List.mem_append,List.mem_flatMap]
 rintro c (⟨n,_,hc⟩|⟨d,_,s,_,hc⟩|⟨x,_,hc⟩)
 ·simp only[Ino.enc,AV.flat,bF,List.append_nil,List.mem_append,List.mem_flatMap,List.mem_singleton]at hc
  rcases hc with rfl|rfl|rfl|⟨_,_,rfl⟩<;>rfl
 ·simp only[Ent.enc,AV.flat,List.append_nil,List.mem_append,List.mem_singleton]at hc
  rcases hc with rfl|rfl|rfl<;>rfl
 ·simp only[Dat.enc,AV.flat,List.append_nil,List.mem_append,List.mem_singleton]at hc
  rcases hc with rfl|rfl<;>rfl
theorem qK{r:Nat}{a b:List Value}(h:w.rangeAt r o (a++b)):w.rangeAt r o a:=fun j v hv=>h j v (by
 have hj:j<a.length:=by
  rcases Nat.lt_or_ge j a.length with h|h
  ·exact h
  ·rw[List.getElem?_eq_none h]at hv;simp at hv
 rw[List.getElem?_append_left hj];exact hv)
theorem px{r:Nat}{a b:List Value}(h:w.rangeAt r o (a++b)):w.rangeAt r (o+a.length) b:=fun j v hv=>by
 have:=h (a.length+j) v (by rw[List.getElem?_append_right (by omega),Nat.add_sub_cancel_left];exact hv)
 rw[←Nat.add_assoc]at this
 exact this
theorem xh{r:Nat}{f:Nat->List Value}{c:Nat}(hf:∀i,(f i).length=c)(h:w.rangeAt r o ((List.range n).flatMap f))(d:Nat)(hd:d<n):w.rangeAt r (o+d*c) (f d):=fun j v hv=>by
 have hj:j<c:=by
  rcases Nat.lt_or_ge j c with h|h
  ·exact h
  ·rw[List.getElem?_eq_none (by rw[hf];exact h)]at hv;simp at hv
 have e:=cv (List.range n) f c (fun x _=>hf x) d (by simpa using hd) j hj
 rw[List.getElem_range]at e
 have:=h (d*c+j) v (by rw[e];exact hv)
 rw[←Nat.add_assoc]at this
 exact this
theorem Hl[Fix](hf:∃f c,P.funcs[F]?=some f/\f.body=some c/\(f.name== "runtime.NumGoroutine")=false)
  (hraw:∀O w,Fix.I O w->∀(m:Img) (r off:Nat),m.slim->r<w.heap.size->w.rangeAt r off (inosCs m)->(∀d,d<3->w.rangeAt r (off+40+d*12) (rowCs m d))->w.rangeAt r (off+76) (datsCs m)->
   Calls P F #[.pointer (some ⟨r,off,none⟩)] w fun e w'=>e=.returned (.string ⟨(textL m).toArray⟩)/\Below w.heap.size w w'):gh P T φ F Fn.ep:=by
 refine⟨hf,fun m cx args h s2 v β O rargs w hr hv hlen ha hm hdom htop hfresh hinv=>?_⟩
 match args,hlen with
 | [a],_=>
  obtain⟨i,p,img,b,rfl,hl,hat,hs,rfl,ho,hh⟩:=Av hr hv
  obtain⟨x,rfl⟩:∃x,rargs=[x]:=by
   have:=ha.1
   match rargs,this with
   | [x],_=>exact⟨x,rfl⟩
  have hx:=ha.2 0 _ _ rfl rfl
  simp only[VR,VR1,AV.isAgg,Bool.false_eq_true,if_false,LR,AV.rel]at hx
  obtain⟨pl,o,hpl,hfd,rfl⟩:=hx
  obtain⟨pl',cs,TT,fr,hB⟩:=hm.live i b hl
  have e:=hB.place.symm.trans hpl
  simp only[Option.some.injEq]at e
  subst e
  rw[hB.ty]at hfd
  obtain⟨hfit,hseg⟩:=Ty.fits_at hB.fits hfd hat
  have hbig:w.rangeAt pl'.r (pl'.base+o) (img.enc.flat.map sR):=by
   intro j v hv
   rw[List.getElem?_map,Option.map_eq_some_iff]at hv
   obtain⟨c,hc,rfl⟩:=hv
   have hjs:j<ac.size:=by
    rcases Nat.lt_or_ge j ac.size with h|h
    ·exact h
    ·rw[List.getElem?_eq_none (by rw[Ty.fits_length hfit];exact h)]at hc;simp at hc
   obtain⟨x,hx,hLR⟩:=hB.cells (o+j) c (by rw[hseg j hjs];exact hc)
   rw[CR (zV img c (List.mem_of_getElem? hc)) hLR]at hx
   simp only[World.cell?,hB.heap]
   rw[Nat.add_assoc]
   simpa using hx
  rw[BB]at hbig
  have h1:=qK hbig
  have h2:=px hbig
  rw[show(inosCs img).length=40 from rfl]at h2
  have h3:=xh (f:=rowCs img) (c:=12) (fun _=>rfl) (qK h2)
  have h4:=px h2
  rw[show((List.range 3).flatMap (rowCs img)).length=36 from rfl]at h4
  refine(hraw O w hinv img pl'.r (pl'.base+o) hs (Array.getElem?_eq_some_iff.1 hB.heap).1 h1 h3 h4).mono ?_
  rintro e w' ⟨rfl,hb⟩
  exact⟨_,β,rfl,VR_of_VR1 (by simp[VR1,AV.isAgg,LR,AV.rel]),.inl rfl,iq hm hdom htop ho hh hb⟩
end
open Go.RowKit
section
variable{T:MTb}{n m:Nat}{cx:Cx}{d:Option Nat}{mk:MK}{kill:List Nat}{r:List MOp}{k:List Item}{s s2:St}{h:HP}{a b v:AV}
theorem cR (hop:∀todo,opCmd T cx d mk todo s=match evOp cx d mk s with
   |some (v,s')=>.go todo (s'.setd d v)
   |none=>.fail) (hr:run T (n+1) cx (.ops (⟨d,mk,none⟩::r) kill::k) s=some s2):
  ∃v s',evOp cx d mk s=some (v,s')/\run T n cx (.ops r kill::k) (s'.setd d v)=some s2:=by
 have e:next T cx (.ops (⟨d,mk,none⟩::r) kill::k) s=opCmd T cx d mk (.ops r kill::k) s:=rfl
 rw[vk,e,hop]at hr
 cases he:evOp cx d mk s with
 |none=>rw[he]at hr;simp at hr
 |some q=>
  obtain⟨v,s'⟩:=q
  rw[he]at hr
  exact⟨v,s',rfl,hr⟩
theorem lW(hr:run T (n+2) cx [.ops [] [],.code .ret] s=some s2):s2=s.kill []:=(Option.some.inj hr).symm
theorem kE{f:List AV->Option AV}(he:evOp cx d (.prim f xs) s=some (v,s')):s'=s/\f (xs.map s.opd)=some v/\v.safe=true:=by
 unfold evOp at he
 simp only[evK]at he
 split at he
 ·rename_i e he'
  split at he'
  ·rename_i y hy
   split at he'<;>simp only[Option.some.injEq,reduceCtorEq]at he'
   subst he'
   simp only[ax,Option.some.injEq,Prod.mk.injEq]at he
   obtain⟨rfl,rfl⟩:=he
   rename_i hs
   exact⟨rfl,hy,hs⟩
  ·simp at he'
 ·simp at he
theorem BN{f:List AV->ByteArray->Option AV}(he:evOp cx d (.primS f t x y) s=some (v,s')):
  s'=s/\∃l c,elems (s.look cx) t (s.opd x)=some l/\s.opd y=.str c/\f l c=some v/\v.safe=true:=by
 unfold evOp at he
 simp only[evK]at he
 split at he
 ·rename_i e he'
  split at he'
  ·rename_i l c hl hc
   split at he'
   ·rename_i y hy
    split at he'<;>simp only[Option.some.injEq,reduceCtorEq]at he'
    subst he'
    simp only[ax,Option.some.injEq,Prod.mk.injEq]at he
    obtain⟨rfl,rfl⟩:=he
    rename_i hs
    exact⟨rfl,l,c,hl,hc,hy,hs⟩
   ·simp at he'
  ·simp at he'
 ·simp at he
theorem BO{f:List AV->Option (List AV)}{dd:Nat}(he:evOp cx (some dd) (.primN f t xs) s=some (v,s')):
  ∃l,f (xs.map s.opd)=some l/\(l.all fun v=>t.fits v)=true/\v=.sl (.obj s.hp.next) 0 l.length/\s'={s with hp:=s.hp.nw (.arr l.length t) (.ofList l)}:=by
 unfold evOp at he
 simp only[evK]at he
 split at he
 ·rename_i e he'
  split at he'
  ·rename_i l hl
   split at he'<;>simp only[Option.some.injEq,reduceCtorEq]at he'
   rename_i ha
   subst he'
   have he2:some (AV.sl (.obj s.hp.next) 0 l.length,{s with hp:=s.hp.nw (.arr l.length t) (.ofList l)})=some (v,s'):=he
   simp only[Option.some.injEq,Prod.mk.injEq]at he2
   obtain⟨rfl,rfl⟩:=he2
   exact⟨l,hl,ha,rfl,rfl⟩
  ·simp at he'
 ·simp at he
theorem BP{st ft:Ty}{i:Nat}(he:evOp cx d (.fld st i ft x) s=some (v,s')):s'=s/\∃j p,s.opd x=.ptr j p st/\v=.ptr j (p++[i]) ft:=by
 unfold evOp at he
 simp only[evK]at he
 split at he
 ·rename_i e he'
  split at he'
  ·rename_i j p t hx
   split at he'<;>simp only[Option.some.injEq,reduceCtorEq]at he'
   subst he'
   simp only[ax,Option.some.injEq,Prod.mk.injEq]at he
   obtain⟨rfl,rfl⟩:=he
   rename_i hs
   exact⟨rfl,j,p,by rw[hx,hs.1],rfl⟩
  ·simp at he'
 ·simp at he
theorem BM{ap:List Nat}(he:evOp cx d (.store t ap x y) s=some (v,s')):
  ∃i p bb u,s.opd x=.ptr i p t/\t.fits (s.opd y)=true/\s.look cx i=some bb/\bb.val.put p (s.opd y)=some u/\v=.bot/\s.write cx i ⟨bb.ty,u⟩=some s':=by
 unfold evOp at he
 simp only[evK]at he
 split at he
 ·rename_i e he'
  split at he'
  ·rename_i i p t' hx
   split at he'
   ·rename_i hc
    split at he'
    ·rename_i bb hb
     split at he'<;>simp only[Option.some.injEq,reduceCtorEq]at he'
     rename_i u hu
     subst he'
     simp only[ax,Option.map_eq_some_iff,Prod.mk.injEq]at he
     obtain⟨s1,h1,rfl,rfl⟩:=he
     exact⟨i,p,bb,u,by rw[hx,hc.1],hc.2.1,hb,hu,rfl,h1⟩
    ·simp at he'
   ·simp at he'
  ·simp at he'
 ·simp at he
theorem BL(he:evOp cx d (.tostr x) s=some (v,s')):s'=s/\∃l bs,elems (s.look cx) tU8 (s.opd x)=some l/\bytesOf l=some bs/\v=.str ⟨bs.toArray⟩:=by
 unfold evOp at he
 simp only[evK]at he
 split at he
 ·rename_i e he'
  split at he'
  ·rename_i l hl
   simp only[Option.map_eq_some_iff]at he'
   obtain⟨bs,hb,rfl⟩:=he'
   simp only[ax,Option.some.injEq,Prod.mk.injEq]at he
   obtain⟨rfl,rfl⟩:=he
   exact⟨rfl,l,bs,hl,hb,rfl⟩
  ·simp at he'
 ·simp at he
theorem D6(he:evOp cx d (.drop x) s=some (v,s')):(s.opd x=.nilsl/\s'=s)\/(s.opd x=.slz/\s'=s)\/∃j o l,s.opd x=.sl j o l/\s.drop cx j=some s':=by
 unfold evOp at he
 simp only[evK]at he
 split at he
 ·rename_i e he'
  split at he'<;>simp only[Option.some.injEq,reduceCtorEq]at he'
  ·rename_i j o l hx
   subst he'
   simp only[ax,Option.map_eq_some_iff,Prod.mk.injEq]at he
   obtain⟨s1,h1,_,rfl⟩:=he
   exact .inr (.inr ⟨j,o,l,hx,h1⟩)
  ·rename_i hx
   subst he'
   simp only[ax,Option.some.injEq,Prod.mk.injEq]at he
   exact .inl ⟨hx,he.2.symm⟩
  ·rename_i hx
   subst he'
   simp only[ax,Option.some.injEq,Prod.mk.injEq]at he
   exact .inr (.inl ⟨hx,he.2.symm⟩)
 ·simp at he
theorem uZ{l:List AV}{ws:List Str}(he:strsOf l=some ws):l=ws.map .str:=by
 induction l generalizing ws with
 |nil=>simp only[strsOf,Option.some.injEq]at he;subst he;rfl
 |cons x r ih=>
  cases x<;>simp only[strsOf,Option.map_eq_some_iff,reduceCtorEq]at he
  obtain⟨w,hw,rfl⟩:=he
  rw[ih hw];rfl
theorem CS(hr:run T m cx [.code Fn.da.body] (St.enter [a,b] h)=some s2)(hv:results cx s2 Fn.da.res=some v):
  ∃ws sep,elems ((St.enter [a,b] h).look cx) tS a=some (ws.map .str)/\b=.str sep/\ws.length<=1000000/\(fk ws sep).length<=100000000/\v=.str ⟨(fk ws sep).toArray⟩/\s2.own=[]/\s2.hp=h:=by
 have h1:run T (m+3+1) cx [.ops [⟨some 2,.primS vz tS (.s 0) (.s 1),none⟩] [],.code .ret] (St.enter [a,b] h)=some s2:=jE hr 6
 obtain⟨x,s1,he,h2⟩:=cR (fun _=>rfl) h1
 obtain⟨rfl,l,c,hl,hc,hf,hs⟩:=BN he
 have h3:=lW (n:=m+1) h2
 subst h3
 have hb:b=.str c:=hc
 subst hb
 have hv2:(if x.safe=true then some x else none)=some v:=hv
 rw[if_pos hs]at hv2
 obtain rfl:=Option.some.inj hv2
 unfold vz at hf
 split at hf
 ·rename_i ws hw
  split at hf<;>simp only[Option.some.injEq,reduceCtorEq]at hf
  rename_i hn
  have e:=uZ hw
  subst e
  exact⟨ws,c,hl,rfl,hn.1,hn.2,hf.symm,rfl,rfl⟩
 ·simp at hf
theorem uI(hr:run T m cx [.code Fn.cJ.body] (St.enter [a,b] h)=some s2)(hv:results cx s2 Fn.cJ.res=some v):
  ∃(t sep:ByteArray) (c:UInt8),a=.str t/\b=.str sep/\sep.data.toList=[c]/\v=.bool (hasB t c)/\s2.own=[]/\s2.hp=h:=by
 have h1:run T (m+3+1) cx [.ops [⟨some 2,.prim jQ [(.s 0),(.s 1)],none⟩] [],.code .ret] (St.enter [a,b] h)=some s2:=jE hr 6
 obtain⟨x,s1,he,h2⟩:=cR (fun _=>rfl) h1
 obtain⟨rfl,hf,hs⟩:=kE he
 have h3:=lW (n:=m+1) h2
 subst h3
 have hv2:(if x.safe=true then some x else none)=some v:=hv
 rw[if_pos hs]at hv2
 obtain rfl:=Option.some.inj hv2
 have hf2:jQ [a,b]=some x:=hf
 unfold jQ at hf2
 split at hf2
 ·rename_i t sep e
  simp only[List.cons.injEq,and_true]at e
  obtain⟨rfl,rfl⟩:=e
  split at hf2<;>simp only[Option.some.injEq,reduceCtorEq]at hf2
  rename_i c hc
  exact⟨t,sep,c,rfl,rfl,hc,hf2.symm,rfl,rfl⟩
 ·simp at hf2
theorem Dc(hr:run T m cx [.code Fn.dM.body] (St.enter [a] h)=some s2)(hv:results cx s2 Fn.dM.res=some v):
  ∃t:ByteArray,a=.str t/\t.size<=1000000/\v=.tup (.cons (.int .i64 (gV t)) (.cons (.iface (kW t)) .unit))/\s2.own=[]/\s2.hp=h:=by
 have h1:run T (m+4+1) cx [.ops [⟨some 1,.prim sH [(.s 0)],none⟩,⟨some 2,.prim n6 [(.s 0)],none⟩] [],.code .ret] (St.enter [a] h)=some s2:=jE hr 7
 obtain⟨x,s1,he,h2⟩:=cR (fun _=>rfl) h1
 obtain⟨rfl,hf,hs⟩:=kE he
 obtain⟨y,s1,he',h2'⟩:=cR (n:=m+3) (fun _=>rfl) h2
 obtain⟨rfl,hf',hs'⟩:=kE he'
 have h3:=lW (n:=m+1) h2'
 subst h3
 have hf2:sH [a]=some x:=hf
 have hf3:n6 [a]=some y:=hf'
 unfold sH at hf2
 split at hf2
 ·rename_i t e
  simp only[List.cons.injEq,and_true]at e
  obtain rfl:=e
  split at hf2<;>simp only[Option.some.injEq,reduceCtorEq]at hf2
  rename_i ht
  subst hf2
  simp only[n6]at hf3
  rw[if_pos ht]at hf3
  obtain rfl:=Option.some.inj hf3
  exact⟨t,rfl,ht,(Option.some.inj hv).symm,rfl,rfl⟩
 ·simp at hf2
theorem Ap(hr:run T m cx [.code Fn.cY.body] (St.enter [a,b] h)=some s2)(hv:results cx s2 Fn.cY.res=some v):
  ∃(t sep:ByteArray) (c:UInt8),a=.str t/\b=.str sep/\sep.data.toList=[c]/\t.size<=1000000/\v=.sl (.obj h.next) 0 (cutB t c).length/\s2.own=[]/\s2.hp=h.nw (.arr (cutB t c).length tS) (.ofList ((cutB t c).map .str)):=by
 have h1:run T (m+3+1) cx [.ops [⟨some 2,.primN n5 tS [(.s 0),(.s 1)],none⟩] [],.code .ret] (St.enter [a,b] h)=some s2:=jE hr 6
 obtain⟨x,s1,he,h2⟩:=cR (fun _=>rfl) h1
 obtain⟨l,hf,ha,rfl,rfl⟩:=BO he
 have h3:=lW (n:=m+1) h2
 subst h3
 have hf2:n5 [a,b]=some l:=hf
 unfold n5 at hf2
 split at hf2
 ·rename_i t sep e
  simp only[List.cons.injEq,and_true]at e
  obtain⟨rfl,rfl⟩:=e
  split at hf2
  ·rename_i c hc
   split at hf2<;>simp only[Option.some.injEq,reduceCtorEq]at hf2
   rename_i ht
   subst hf2
   have e1:some (AV.sl (.obj h.next) 0 ((cutB t c).map AV.str).length)=some v:=hv
   rw[List.length_map]at e1
   refine⟨t,sep,c,rfl,rfl,hc,ht,(Option.some.inj e1).symm,rfl,?_⟩
   show h.nw (.arr ((cutB t c).map AV.str).length tS) _=_
   rw[List.length_map]
  ·simp at hf2
 ·simp at hf2
theorem sr(hr:run T m cx [.code Fn.bA.body] (St.enter [a] h)=some s2)(hv:results cx s2 Fn.bA.res=some v):
  ∃j bb x u,a=.ptr (.obj j) [0] tBld/\h.look (.obj j)=some bb/\tDesk.fits bb.val=true/\bb.val.at [0,0]=some x/\(x=.nilp\/x=.ptr (.obj j) [0] tBld)/\bb.val.put [0,0] (.ptr (.obj j) [0] tBld)=some u/\
   v=.tup .unit/\s2.own=[]/\s2.hp=h.set (.obj j) ⟨bb.ty,u⟩:=by
 have h1:run T (m+8+1) cx [.ops [⟨some 1,.fld tBld 0 tP (.s 0),none⟩,⟨some 2,.load false none tP (.s 1),none⟩,⟨some 3,.prim vw [(.s 2),(.s 0)],none⟩,⟨some 4,.prim pUp [(.s 0)],none⟩,⟨some 5,.load false none tDesk (.s 4),none⟩,⟨none,.store tP [] (.s 1) (.s 0),none⟩] [],.code .ret] (St.enter [a] h)=some s2:=jE hr 11
 obtain⟨x1,s1,he1,h1⟩:=cR (fun _=>rfl) h1
 obtain⟨rfl,i,p,hx1,rfl⟩:=BP he1
 have ha:a=.ptr i p tBld:=hx1
 subst ha
 obtain⟨x2,s1,he2,h1⟩:=cR (n:=m+7) (fun _=>rfl) h1
 obtain⟨rfl,i2,p2,hx2,hu2,hf2⟩:=ny he2
 have hx2':AV.ptr i (p++[0]) tP=.ptr i2 p2 tP:=hx2
 simp only[AV.ptr.injEq,and_true]at hx2'
 obtain⟨rfl,rfl⟩:=hx2'
 obtain⟨x3,s1,he3,h1⟩:=cR (n:=m+6) (fun _=>rfl) h1
 obtain⟨rfl,hp3,hs3⟩:=kE he3
 have hp3':vw [x2,.ptr i p tBld]=some x3:=hp3
 obtain⟨j,rfl,rfl,hx⟩:∃j,i=.obj j/\p=[0]/\(x2=.nilp\/x2=.ptr (.obj j) [0] tBld):=by
  unfold vw at hp3'
  split at hp3'
  ·rename_i j t e
   simp only[List.cons.injEq,and_true,AV.ptr.injEq]at e
   obtain⟨rfl,rfl,rfl,rfl⟩:=e
   exact⟨j,rfl,rfl,.inl rfl⟩
  ·rename_i j1 t1 j t e
   simp only[List.cons.injEq,and_true,AV.ptr.injEq]at e
   obtain⟨rfl,rfl,rfl,rfl⟩:=e
   split at hp3'<;>simp only[Option.some.injEq,reduceCtorEq]at hp3'
   rename_i hc
   obtain⟨rfl,rfl,_⟩:=hc
   exact⟨_,rfl,rfl,.inr rfl⟩
  ·simp at hp3'
 obtain⟨x4,s1,he4,h1⟩:=cR (n:=m+5) (fun _=>rfl) h1
 obtain⟨rfl,hp4,hs4⟩:=kE he4
 have hp4':pUp [.ptr (.obj j) [0] tBld]=some x4:=hp4
 simp only[pUp,if_true,Option.some.injEq]at hp4'
 subst hp4'
 obtain⟨x5,s1,he5,h1⟩:=cR (n:=m+4) (fun _=>rfl) h1
 obtain⟨rfl,i5,p5,hx5,hu5,hf5⟩:=ny he5
 have hx5':AV.ptr (.obj j) [] tDesk=.ptr i5 p5 tDesk:=hx5
 simp only[AV.ptr.injEq,and_true]at hx5'
 obtain⟨rfl,rfl⟩:=hx5'
 obtain⟨x6,s1,he6,h1⟩:=cR (n:=m+3) (fun _=>rfl) h1
 obtain⟨i6,p6,bb,u,hx6,hf6,hb6,hu6,rfl,hw⟩:=BM he6
 have hx6':AV.ptr (.obj j) ([0]++[0]) tP=.ptr i6 p6 tP:=hx6
 simp only[AV.ptr.injEq,and_true]at hx6'
 obtain⟨rfl,rfl⟩:=hx6'
 have h3:=lW (n:=m+1) h1
 subst h3
 have hb:h.look (.obj j)=some bb:=hb6
 have e5:((h.look (.obj j)).bind fun b=>b.val.at [])=some x5:=hu5
 rw[hb]at e5
 have e5':bb.val.at []=some x5:=e5
 have e6:bb.val=x5:=by simpa[AV.at]using e5'
 subst e6
 have e2:((h.look (.obj j)).bind fun b=>b.val.at [0,0])=some x2:=hu2
 rw[hb]at e2
 have hw2:(if cx.prot.lets (.obj j)then some _ else none)=some s1:=hw
 split at hw2<;>simp only[Option.some.injEq,reduceCtorEq]at hw2
 subst hw2
 exact⟨j,bb,x2,u,rfl,hb,hf5,e2,hx,hu6,(Option.some.inj hv).symm,rfl,rfl⟩
theorem yb(hr:run T m cx [.code Fn.bN.body] (St.enter [a] h)=some s2)(hv:results cx s2 Fn.bN.res=some v):
  ∃j bb y,a=.ptr (.obj j) [0] tBld/\h.look (.obj j)=some bb/\tDesk.fits bb.val=true/\bb.val.at [0,1]=some y/\s2.own=[]/\
   ((y=.nilsl/\v=.str ⟨#[]⟩/\s2.hp=h)\/∃g l bs,y=.sl (.obj g) 0 l/\l<=1048576/\(∃c,elems ((St.enter [a] h).look cx) tU8 y=some c/\bytesOf c=some bs)/\v=.str ⟨bs.toArray⟩/\s2.hp=h.dl g):=by
 have h1:run T (m+9+1) cx [.ops [⟨some 1,.fld tBld 1 tSl (.s 0),none⟩,⟨some 2,.load false none tSl (.s 1),none⟩,⟨some 5,.prim pUp [(.s 0)],none⟩,⟨some 6,.load false none tDesk (.s 5),none⟩,⟨some 4,.prim zI [(.s 2)],none⟩,⟨some 3,.tostr (.s 2),none⟩,⟨none,.drop (.s 2),none⟩] [],.code .ret] (St.enter [a] h)=some s2:=jE hr 12
 obtain⟨x1,s1,he1,h1⟩:=cR (fun _=>rfl) h1
 obtain⟨rfl,i,p,hx1,rfl⟩:=BP he1
 have ha:a=.ptr i p tBld:=hx1
 subst ha
 obtain⟨x2,s1,he2,h1⟩:=cR (n:=m+8) (fun _=>rfl) h1
 obtain⟨rfl,i2,p2,hx2,hu2,hf2⟩:=ny he2
 have hx2':AV.ptr i (p++[1]) tSl=.ptr i2 p2 tSl:=hx2
 simp only[AV.ptr.injEq,and_true]at hx2'
 obtain⟨rfl,rfl⟩:=hx2'
 obtain⟨x4,s1,he4,h1⟩:=cR (n:=m+7) (fun _=>rfl) h1
 obtain⟨rfl,hp4,hs4⟩:=kE he4
 have hp4':pUp [.ptr i p tBld]=some x4:=hp4
 obtain⟨j,rfl,rfl,rfl⟩:∃j,i=.obj j/\p=[0]/\x4=.ptr (.obj j) [] tDesk:=by
  unfold pUp at hp4'
  split at hp4'
  ·rename_i j t e
   simp only[List.cons.injEq,and_true,AV.ptr.injEq]at e
   obtain⟨rfl,rfl,rfl⟩:=e
   simp only[if_true,Option.some.injEq]at hp4'
   exact⟨j,rfl,rfl,hp4'.symm⟩
  ·simp at hp4'
 obtain⟨x5,s1,he5,h1⟩:=cR (n:=m+6) (fun _=>rfl) h1
 obtain⟨rfl,i5,p5,hx5,hu5,hf5⟩:=ny he5
 have hx5':AV.ptr (.obj j) [] tDesk=.ptr i5 p5 tDesk:=hx5
 simp only[AV.ptr.injEq,and_true]at hx5'
 obtain⟨rfl,rfl⟩:=hx5'
 obtain⟨bb,hb1,hb2⟩:=Option.bind_eq_some_iff.1 (show(h.look (.obj j)).bind (fun b=>b.val.at [0,1])=some x2 from hu2)
 have e5:((h.look (.obj j)).bind fun b=>b.val.at [])=some x5:=hu5
 rw[hb1]at e5
 have e5':bb.val.at []=some x5:=e5
 have e6:bb.val=x5:=by simpa[AV.at]using e5'
 subst e6
 obtain⟨x3,s1,he3,h1⟩:=cR (n:=m+5) (fun _=>rfl) h1
 obtain⟨rfl,hp3,hs3⟩:=kE he3
 have hp3':zI [x2]=some x3:=hp3
 obtain⟨x4,s1,he4,h1⟩:=cR (n:=m+4) (fun _=>rfl) h1
 obtain⟨rfl,l,bs,hl,hbs,rfl⟩:=BL he4
 have hl':elems ((St.enter [.ptr (.obj j) [0] tBld] h).look cx) tU8 x2=some l:=hl
 obtain⟨x7,s1,he7,h1⟩:=cR (n:=m+3) (fun _=>rfl) h1
 have hd:=D6 he7
 have h3:=lW (n:=m+1) h1
 subst h3
 unfold zI at hp3'
 split at hp3'
 ·rename_i e
  simp only[List.cons.injEq,and_true]at e
  subst e
  simp only[elems,Option.some.injEq]at hl'
  subst hl'
  simp only[bytesOf,Option.some.injEq]at hbs
  subst hbs
  rcases hd with⟨_,rfl⟩|⟨_,rfl⟩|⟨j,o,l,hd,_⟩
  ·exact⟨j,bb,.nilsl,rfl,hb1,hf5,hb2,rfl,.inl ⟨rfl,(Option.some.inj hv).symm,rfl⟩⟩
  ·exact⟨j,bb,.nilsl,rfl,hb1,hf5,hb2,rfl,.inl ⟨rfl,(Option.some.inj hv).symm,rfl⟩⟩
  ·exact absurd (show AV.nilsl=.sl j o l from hd) (by simp)
 ·rename_i g n e
  simp only[List.cons.injEq,and_true]at e
  subst e
  split at hp3'<;>simp only[Option.some.injEq,reduceCtorEq]at hp3'
  rename_i hn
  rcases hd with hd|hd|⟨j',o,l',hd,hdr⟩
  ·exact absurd (show AV.sl (.obj g) 0 n=.nilsl from hd.1) (by simp)
  ·exact absurd (show AV.sl (.obj g) 0 n=.slz from hd.1) (by simp)
  ·have hd':AV.sl (.obj g) 0 n=.sl j' o l':=hd
   simp only[AV.sl.injEq]at hd'
   obtain⟨rfl,rfl,rfl⟩:=hd'
   have hw2:(if cx.prot.lets (.obj g)then some _ else none)=some s1:=hdr
   split at hw2<;>simp only[Option.some.injEq,reduceCtorEq]at hw2
   subst hw2
   exact⟨j,bb,_,rfl,hb1,hf5,hb2,rfl,.inr ⟨g,n,bs,rfl,hn,⟨l,hl',hbs⟩,(Option.some.inj hv).symm,rfl⟩⟩
 ·simp at hp3'
end
end Go.Mini
