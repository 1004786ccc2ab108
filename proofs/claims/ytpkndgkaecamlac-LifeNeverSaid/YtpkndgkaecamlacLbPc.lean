/- A part of the proof: what Lb computes, step by step. -/
import Derived.Test.YtpkndgkaecamlacLbPb
import Derived.Attr

namespace Go.Mini
def tI : Ty := (.leaf (.int .i64))
def tB : Ty := (.leaf (.bool))
def tS : Ty := (.leaf (.str))
def tP : Ty := (.leaf (.ptr))
def tParts : Ty := (.arr 2 tI)
def tK3 : Ty := (.arr 3 tI)
def tHeld : Ty := (.arr 9 tI)
def tData : Ty := (.cons tI (.cons tS .unit))
def tFiles : Ty := (.cons tP (.cons tI .unit))
def tDatas : Ty := (.arr 9 tData)
def tEntry : Ty := (.cons tS (.cons tI (.cons tI .unit)))
def tLost : Ty := (.cons tI (.cons tI (.cons tI .unit)))
def tRow : Ty := (.arr 4 tEntry)
def tDirs : Ty := (.arr 3 tRow)
def tInode : Ty := (.cons tB (.cons tI (.cons tI (.cons tParts .unit))))
def tInodes : Ty := (.arr 8 tInode)
def tLife : Ty := (.cons tP (.cons tLost (.cons tI .unit)))
def tStep : Ty := (.cons tI (.cons tI (.cons tI (.cons tI (.cons tS (.cons tS (.cons tS .unit)))))))
def tImage : Ty := (.cons tInodes (.cons tDirs (.cons tDatas .unit)))
def tCache : Ty := (.cons tImage (.cons tImage .unit))
def tBed : Ty := (.cons tImage (.cons tImage (.cons tI (.cons tI (.cons tI (.cons tI (.cons tI .unit)))))))
namespace Fn
@[reducible] def safe_Union.r0 : List MOp := [⟨some 6, .mov (.c (.int .i64 0)), none⟩]
@[reducible] def safe_Union.r1 : List MOp := [⟨some 7, .mov (.c (.int .i64 0)), none⟩]
@[reducible] def safe_Union.r2 : List MOp := [⟨some 12, .mov (.c (.int .i64 0)), none⟩]
@[reducible] def safe_Union.r3 : List MOp := [⟨some 13, .bin .lss (.s 12) (.c (.int .i64 3)), none⟩]
@[reducible] def safe_Union.r4 : List MOp := [⟨some 14, .mov (.s 12), none⟩, ⟨some 8, .mov (.s 14), none⟩]
@[reducible] def safe_Union.r5 : List MOp := [⟨some 15, .mov (.c (.int .i64 0)), none⟩]
@[reducible] def safe_Union.r6 : List MOp := [⟨some 16, .bin .lss (.s 15) (.c (.int .i64 4)), none⟩]
@[reducible] def safe_Union.r7 : List MOp := [⟨some 17, .mov (.s 15), none⟩, ⟨some 9, .mov (.s 17), none⟩]
@[reducible] def safe_Union.r8 : List MOp := [⟨some 18, .mov (.s 0), none⟩, ⟨some 19, .mov (.s 8), none⟩, ⟨some 20, .mov (.s 9), none⟩, ⟨some 21, .nilck (.s 18), none⟩, ⟨some 22, .fld tImage 1 tDirs (.s 21), none⟩, ⟨some 23, .idx 3 tRow (.s 22) (.s 19), none⟩, ⟨some 24, .idx 4 tEntry (.s 23) (.s 20), none⟩, ⟨some 25, .load false none tEntry (.s 24), none⟩, ⟨some 26, .mov (.s 1), none⟩, ⟨some 27, .mov (.s 8), none⟩, ⟨some 28, .mov (.s 9), none⟩, ⟨some 29, .nilck (.s 26), none⟩, ⟨some 30, .fld tImage 1 tDirs (.s 29), none⟩, ⟨some 31, .idx 3 tRow (.s 30) (.s 27), none⟩, ⟨some 32, .idx 4 tEntry (.s 31) (.s 28), none⟩, ⟨some 33, .load false (some 1) tEntry (.s 32), none⟩, ⟨some 10, .alloc false tEntry, none⟩, ⟨some 11, .alloc false tEntry, none⟩, ⟨none, .store tEntry [1] (.s 10) (.s 25), none⟩, ⟨none, .store tEntry [] (.s 11) (.s 33), none⟩]
@[reducible] def safe_Union.r9 : List MOp := [⟨some 34, .fld tEntry 0 tS (.s 10), none⟩, ⟨some 35, .load false none tS (.s 34), none⟩, ⟨some 36, .bin .neq (.s 35) (.c (.str ⟨#[]⟩)), none⟩, ⟨some 37, .mov (.s 36), none⟩, ⟨some 38, .fld tEntry 1 tI (.s 10), some (37, true)⟩, ⟨some 39, .load false none tI (.s 38), some (37, true)⟩, ⟨some 40, .mov (.s 2), some (37, true)⟩, ⟨some 41, .bin .eql (.s 39) (.s 40), some (37, true)⟩, ⟨some 42, .pick (.s 37) (.s 41) (.c (.bool false)), none⟩, ⟨some 43, .mov (.s 42), none⟩, ⟨some 44, .fld tEntry 0 tS (.s 11), some (43, false)⟩, ⟨some 45, .load false none tS (.s 44), some (43, false)⟩, ⟨some 46, .bin .neq (.s 45) (.c (.str ⟨#[]⟩)), some (43, false)⟩, ⟨some 47, .mov (.s 46), some (43, false)⟩, ⟨some 48, .fld tEntry 1 tI (.s 11), some (47, true)⟩, ⟨some 49, .load false none tI (.s 48), some (47, true)⟩, ⟨some 50, .mov (.s 2), some (47, true)⟩, ⟨some 51, .bin .eql (.s 49) (.s 50), some (47, true)⟩, ⟨some 52, .pick (.s 47) (.s 51) (.c (.bool false)), some (43, false)⟩, ⟨some 53, .pick (.s 43) (.c (.bool true)) (.s 52), none⟩]
@[reducible] def safe_Union.r10 : List MOp := [⟨some 54, .mov (.s 7), none⟩, ⟨some 55, .bin .add (.s 54) (.c (.int .i64 1)), none⟩, ⟨some 7, .mov (.s 55), none⟩]
@[reducible] def safe_Union.r11 : List MOp := [⟨some 56, .bin .add (.s 15) (.c (.int .i64 1)), none⟩, ⟨some 15, .mov (.s 56), none⟩]
@[reducible] def safe_Union.r12 : List MOp := [⟨some 57, .bin .add (.s 12) (.c (.int .i64 1)), none⟩, ⟨some 12, .mov (.s 57), none⟩]
@[reducible] def safe_Union.r13 : List MOp := [⟨some 58, .mov (.s 7), none⟩, ⟨some 6, .mov (.s 58), none⟩]
@[reducible] def safe_Union.body : MC := (.seq (.reg false safe_Union.r0 [6]) (.seq (.reg false safe_Union.r1 []) (.seq (.seq (.reg false safe_Union.r2 []) (.block 0 (.loop [0, 1, 2, 7, 12] [] (.seq (.reg false safe_Union.r3 []) (.seq (.cond (.s 13) .skip (.exit 0)) (.seq (.block 1 (.seq (.reg false safe_Union.r4 [14]) (.seq (.reg false safe_Union.r5 []) (.block 2 (.loop [0, 1, 2, 7, 8, 12, 15] [] (.seq (.reg false safe_Union.r6 []) (.seq (.cond (.s 16) .skip (.exit 2)) (.seq (.block 3 (.seq (.reg false safe_Union.r7 [17]) (.seq (.reg true safe_Union.r8 [9, 18, 19, 20, 21, 22, 23, 24, 25, 26, 27, 28, 29, 30, 31, 32, 33]) (.seq (.reg false safe_Union.r9 [10, 11, 34, 35, 36, 37, 38, 39, 40, 41, 42, 43, 44, 45, 46, 47, 48, 49, 50, 51, 52]) (.cond (.s 53) (.reg false safe_Union.r10 [54, 55]) .skip))))) (.reg false safe_Union.r11 [56]))))))))) (.reg false safe_Union.r12 [57]))))))) (.seq (.reg false safe_Union.r13 [7, 58]) .ret))))
@[reducible] def safe_Union : MFun := { params := 3, nfree := 0, res := [.tmp 6], body := safe_Union.body }
@[reducible] def safe_Inode.r0 : List MOp := [⟨some 6, .alloc false tInode, none⟩]
@[reducible] def safe_Inode.r1 : List MOp := [⟨some 12, .mov (.s 0), none⟩, ⟨some 13, .mov (.s 2), none⟩, ⟨some 14, .nilck (.s 12), none⟩, ⟨some 15, .fld tImage 0 tInodes (.s 14), none⟩, ⟨some 16, .idx 8 tInode (.s 15) (.s 13), none⟩, ⟨some 17, .load false none tInode (.s 16), none⟩, ⟨some 18, .mov (.s 1), none⟩, ⟨some 19, .mov (.s 2), none⟩, ⟨some 20, .nilck (.s 18), none⟩, ⟨some 21, .fld tImage 0 tInodes (.s 20), none⟩, ⟨some 22, .idx 8 tInode (.s 21) (.s 19), none⟩, ⟨some 23, .load false (some 1) tInode (.s 22), none⟩, ⟨some 7, .alloc false tInode, none⟩, ⟨some 8, .alloc false tInode, none⟩, ⟨none, .store tInode [1] (.s 7) (.s 17), none⟩, ⟨none, .store tInode [] (.s 8) (.s 23), none⟩]
@[reducible] def safe_Inode.r2 : List MOp := [⟨some 24, .mov (.s 0), none⟩, ⟨some 25, .mov (.s 1), none⟩, ⟨some 26, .mov (.s 2), none⟩, ⟨some 27, .call false [] 0 [(.s 24), (.s 25), (.s 26)], none⟩, ⟨some 9, .mov (.s 27), none⟩]
@[reducible] def safe_Inode.r3 : List MOp := [⟨some 28, .fld tInode 0 tB (.s 7), none⟩, ⟨some 29, .load false none tB (.s 28), none⟩, ⟨some 30, .un .not (.s 29), none⟩]
@[reducible] def safe_Inode.r4 : List MOp := [⟨some 31, .fld tInode 0 tB (.s 8), none⟩, ⟨some 32, .load false none tB (.s 31), none⟩, ⟨some 33, .mov (.s 32), none⟩, ⟨some 34, .mov (.s 9), some (33, true)⟩, ⟨some 35, .bin .gtr (.s 34) (.c (.int .i64 0)), some (33, true)⟩, ⟨some 36, .pick (.s 33) (.s 35) (.c (.bool false)), none⟩]
@[reducible] def safe_Inode.r5 : List MOp := [⟨some 37, .mov (.s 9), none⟩, ⟨some 38, .fld tInode 2 tI (.s 8), none⟩, ⟨none, .store tI [] (.s 38) (.s 37), none⟩]
@[reducible] def safe_Inode.r6 : List MOp := [⟨some 39, .load false none tInode (.s 8), none⟩, ⟨none, .store tInode [] (.s 6) (.s 39), none⟩]
@[reducible] def safe_Inode.r7 : List MOp := [⟨some 40, .call false [] 33 [], none⟩, ⟨none, .store tInode [] (.s 6) (.s 40), none⟩]
@[reducible] def safe_Inode.r8 : List MOp := [⟨some 41, .load false none tInode (.s 7), none⟩, ⟨some 10, .alloc false tInode, none⟩, ⟨none, .store tInode [] (.s 10) (.s 41), none⟩]
@[reducible] def safe_Inode.r9 : List MOp := [⟨some 42, .mov (.s 9), none⟩, ⟨some 43, .fld tInode 2 tI (.s 10), none⟩, ⟨none, .store tI [] (.s 43) (.s 42), none⟩]
@[reducible] def safe_Inode.r10 : List MOp := [⟨some 44, .mov (.c (.int .i64 0)), none⟩]
@[reducible] def safe_Inode.r11 : List MOp := [⟨some 45, .bin .lss (.s 44) (.c (.int .i64 2)), none⟩]
@[reducible] def safe_Inode.r12 : List MOp := [⟨some 46, .mov (.s 44), none⟩, ⟨some 11, .mov (.s 46), none⟩]
@[reducible] def safe_Inode.r13 : List MOp := [⟨some 47, .mov (.s 11), none⟩, ⟨some 48, .mov (.s 0), none⟩, ⟨some 49, .mov (.s 1), none⟩, ⟨some 50, .mov (.s 2), none⟩, ⟨some 51, .mov (.s 11), none⟩, ⟨some 52, .call false [] 32 [(.s 48), (.s 49), (.s 50), (.s 51)], none⟩, ⟨some 53, .fld tInode 3 tParts (.s 10), none⟩, ⟨some 54, .idx 2 tI (.s 53) (.s 47), none⟩, ⟨none, .store tI [] (.s 54) (.s 52), none⟩]
@[reducible] def safe_Inode.r14 : List MOp := [⟨some 55, .bin .add (.s 44) (.c (.int .i64 1)), none⟩, ⟨some 44, .mov (.s 55), none⟩]
@[reducible] def safe_Inode.r15 : List MOp := [⟨some 56, .load false none tInode (.s 10), none⟩, ⟨none, .store tInode [] (.s 6) (.s 56), none⟩]
@[reducible] def safe_Inode.body : MC := (.seq (.reg false safe_Inode.r0 []) (.seq (.reg true safe_Inode.r1 [12, 13, 14, 15, 16, 17, 18, 19, 20, 21, 22, 23]) (.seq (.reg false safe_Inode.r2 [24, 25, 26, 27]) (.seq (.seq (.reg false safe_Inode.r3 [28, 29]) (.cond (.s 30) (.seq (.seq (.reg false safe_Inode.r4 [31, 32, 33, 34, 35]) (.cond (.s 36) (.seq (.reg false safe_Inode.r5 [9, 37, 38]) (.seq (.reg false safe_Inode.r6 [8, 39]) .ret)) .skip)) (.seq (.reg false safe_Inode.r7 [40]) .ret)) .skip)) (.seq (.reg false safe_Inode.r8 [7, 41]) (.seq (.reg false safe_Inode.r9 [9, 42, 43]) (.seq (.seq (.reg false safe_Inode.r10 []) (.block 0 (.loop [0, 1, 2, 6, 10, 44] [6, 10] (.seq (.reg false safe_Inode.r11 []) (.seq (.cond (.s 45) .skip (.exit 0)) (.seq (.block 1 (.seq (.reg false safe_Inode.r12 [46]) (.reg false safe_Inode.r13 [11, 47, 48, 49, 50, 51, 52, 53, 54]))) (.reg false safe_Inode.r14 [55]))))))) (.seq (.reg false safe_Inode.r15 [10, 56]) .ret))))))))
@[reducible] def safe_Inode : MFun := { params := 3, nfree := 0, res := [.cell 6 tInode], body := safe_Inode.body }
@[reducible] def safe_Entry.r0 : List MOp := [⟨some 8, .alloc false tEntry, none⟩]
@[reducible] def safe_Entry.r1 : List MOp := [⟨some 12, .mov (.s 0), none⟩, ⟨some 13, .mov (.s 2), none⟩, ⟨some 14, .mov (.s 3), none⟩, ⟨some 15, .nilck (.s 12), none⟩, ⟨some 16, .fld tImage 1 tDirs (.s 15), none⟩, ⟨some 17, .idx 3 tRow (.s 16) (.s 13), none⟩, ⟨some 18, .idx 4 tEntry (.s 17) (.s 14), none⟩, ⟨some 19, .load false none tEntry (.s 18), none⟩, ⟨some 20, .mov (.s 1), none⟩, ⟨some 21, .mov (.s 2), none⟩, ⟨some 22, .mov (.s 3), none⟩, ⟨some 23, .nilck (.s 20), none⟩, ⟨some 24, .fld tImage 1 tDirs (.s 23), none⟩, ⟨some 25, .idx 3 tRow (.s 24) (.s 21), none⟩, ⟨some 26, .idx 4 tEntry (.s 25) (.s 22), none⟩, ⟨some 27, .load false (some 1) tEntry (.s 26), none⟩, ⟨some 9, .alloc false tEntry, none⟩, ⟨some 10, .alloc false tEntry, none⟩, ⟨none, .store tEntry [1] (.s 9) (.s 19), none⟩, ⟨none, .store tEntry [] (.s 10) (.s 27), none⟩]
@[reducible] def safe_Entry.r2 : List MOp := [⟨some 29, .load false none tEntry (.s 9), none⟩, ⟨some 30, .load false none tEntry (.s 10), none⟩, ⟨some 31, .eq false tEntry (.s 29) (.s 30), none⟩, ⟨some 28, .mov (.s 31), none⟩]
@[reducible] def safe_Entry.r3 : List MOp := [⟨some 32, .load false none tEntry (.s 10), none⟩, ⟨none, .store tEntry [] (.s 8) (.s 32), none⟩]
@[reducible] def safe_Entry.r4 : List MOp := [⟨some 34, .fld tEntry 0 tS (.s 10), none⟩, ⟨some 35, .load false none tS (.s 34), none⟩, ⟨some 36, .bin .eql (.s 35) (.c (.str ⟨#[]⟩)), none⟩, ⟨some 37, .mov (.s 36), none⟩, ⟨some 38, .fld tEntry 1 tI (.s 9), some (37, true)⟩, ⟨some 39, .load false none tI (.s 38), some (37, true)⟩, ⟨some 40, .bin .lss (.s 39) (.c (.int .i64 0)), some (37, true)⟩, ⟨some 41, .mov (.s 40), some (37, true)⟩, ⟨some 42, .fld tEntry 1 tI (.s 9), some (41, false)⟩, ⟨some 43, .load false none tI (.s 42), some (41, false)⟩, ⟨some 44, .bin .geq (.s 43) (.c (.int .i64 8)), some (41, false)⟩, ⟨some 45, .pick (.s 41) (.c (.bool true)) (.s 44), some (37, true)⟩, ⟨some 46, .pick (.s 37) (.s 45) (.c (.bool false)), none⟩, ⟨some 33, .mov (.s 46), none⟩]
@[reducible] def safe_Entry.r5 : List MOp := [⟨some 47, .load false none tEntry (.s 10), none⟩, ⟨none, .store tEntry [] (.s 8) (.s 47), none⟩]
@[reducible] def safe_Entry.r6 : List MOp := [⟨some 49, .fld tEntry 0 tS (.s 10), none⟩, ⟨some 50, .load false none tS (.s 49), none⟩, ⟨some 51, .bin .eql (.s 50) (.c (.str ⟨#[]⟩)), none⟩, ⟨some 48, .mov (.s 51), none⟩]
@[reducible] def safe_Entry.r7 : List MOp := [⟨some 52, .mov (.s 1), none⟩, ⟨some 53, .fld tEntry 1 tI (.s 9), none⟩, ⟨some 54, .load false none tI (.s 53), none⟩, ⟨some 55, .nilck (.s 52), none⟩, ⟨some 56, .fld tImage 0 tInodes (.s 55), none⟩, ⟨some 57, .idx 8 tInode (.s 56) (.s 54), none⟩, ⟨some 58, .load false none tInode (.s 57), none⟩, ⟨some 11, .alloc false tInode, none⟩, ⟨none, .store tInode [] (.s 11) (.s 58), none⟩]
@[reducible] def safe_Entry.r8 : List MOp := [⟨some 59, .fld tInode 0 tB (.s 11), none⟩, ⟨some 60, .load false none tB (.s 59), none⟩, ⟨some 61, .mov (.s 60), none⟩, ⟨some 62, .fld tInode 1 tI (.s 11), some (61, true)⟩, ⟨some 63, .load false none tI (.s 62), some (61, true)⟩, ⟨some 64, .fld tEntry 2 tI (.s 9), some (61, true)⟩, ⟨some 65, .load false none tI (.s 64), some (61, true)⟩, ⟨some 66, .bin .eql (.s 63) (.s 65), some (61, true)⟩, ⟨some 67, .pick (.s 61) (.s 66) (.c (.bool false)), none⟩, ⟨some 68, .mov (.s 67), none⟩, ⟨some 69, .fld tInode 2 tI (.s 11), some (68, true)⟩, ⟨some 70, .load false none tI (.s 69), some (68, true)⟩, ⟨some 71, .mov (.s 1), some (68, true)⟩, ⟨some 72, .fld tEntry 1 tI (.s 9), some (68, true)⟩, ⟨some 73, .load false none tI (.s 72), some (68, true)⟩, ⟨some 74, .call true [] 12 [(.s 71), (.s 73)], some (68, true)⟩, ⟨some 75, .bin .gtr (.s 70) (.s 74), some (68, true)⟩, ⟨some 76, .pick (.s 68) (.s 75) (.c (.bool false)), none⟩]
@[reducible] def safe_Entry.r9 : List MOp := [⟨some 77, .load false none tEntry (.s 9), none⟩, ⟨none, .store tEntry [] (.s 8) (.s 77), none⟩]
@[reducible] def safe_Entry.r10 : List MOp := [⟨some 78, .load false none tEntry (.s 10), none⟩, ⟨none, .store tEntry [] (.s 8) (.s 78), none⟩]
@[reducible] def safe_Entry.r11 : List MOp := [⟨some 80, .mov (.s 1), none⟩, ⟨some 81, .fld tEntry 1 tI (.s 10), none⟩, ⟨some 82, .load false none tI (.s 81), none⟩, ⟨some 83, .call false [] 12 [(.s 80), (.s 82)], none⟩, ⟨some 84, .bin .gtr (.s 83) (.c (.int .i64 1)), none⟩, ⟨some 85, .mov (.s 84), none⟩, ⟨some 86, .mov (.s 0), some (85, false)⟩, ⟨some 87, .fld tEntry 1 tI (.s 10), some (85, false)⟩, ⟨some 88, .load false none tI (.s 87), some (85, false)⟩, ⟨some 89, .call false [] 12 [(.s 86), (.s 88)], some (85, false)⟩, ⟨some 90, .bin .eql (.s 89) (.c (.int .i64 0)), some (85, false)⟩, ⟨some 91, .pick (.s 85) (.c (.bool true)) (.s 90), none⟩, ⟨some 79, .mov (.s 91), none⟩]
@[reducible] def safe_Entry.r12 : List MOp := [⟨some 92, .build tEntry [], none⟩, ⟨none, .store tEntry [] (.s 8) (.s 92), none⟩]
@[reducible] def safe_Entry.r13 : List MOp := [⟨some 93, .load false none tEntry (.s 10), none⟩, ⟨none, .store tEntry [] (.s 8) (.s 93), none⟩]
@[reducible] def safe_Entry.body : MC := (.seq (.reg false safe_Entry.r0 []) (.seq (.reg true safe_Entry.r1 [2, 3, 12, 13, 14, 15, 16, 17, 18, 19, 20, 21, 22, 23, 24, 25, 26, 27]) (.seq (.block 0 (.seq (.reg false safe_Entry.r2 [29, 30, 31]) (.cond (.s 28) (.seq (.reg false safe_Entry.r3 [10, 32]) .ret) (.seq (.reg false safe_Entry.r4 [34, 35, 36, 37, 38, 39, 40, 41, 42, 43, 44, 45, 46]) (.cond (.s 33) (.seq (.reg false safe_Entry.r5 [10, 47]) .ret) (.seq (.reg false safe_Entry.r6 [49, 50, 51]) (.cond (.s 48) (.seq (.reg true safe_Entry.r7 [52, 53, 54, 55, 56, 57, 58]) (.seq (.seq (.reg true safe_Entry.r8 [1, 11, 59, 60, 61, 62, 63, 64, 65, 66, 67, 68, 69, 70, 71, 72, 73, 74, 75]) (.cond (.s 76) (.seq (.reg false safe_Entry.r9 [9, 77]) .ret) .skip)) (.seq (.reg false safe_Entry.r10 [10, 78]) .ret))) (.seq (.reg false safe_Entry.r11 [0, 1, 80, 81, 82, 83, 84, 85, 86, 87, 88, 89, 90, 91]) (.cond (.s 79) (.seq (.reg false safe_Entry.r12 [92]) .ret) .skip))))))))) (.seq (.reg false safe_Entry.r13 [10, 93]) .ret))))
@[reducible] def safe_Entry : MFun := { params := 4, nfree := 0, res := [.cell 8 tEntry], body := safe_Entry.body }
@[reducible] def safe_Block.r0 : List MOp := [⟨some 2, .mov (.c (.str ⟨#[]⟩)), none⟩, ⟨some 3, .mov (.c (.int .i64 0)), none⟩]
@[reducible] def safe_Block.r1 : List MOp := [⟨some 4, .mov (.c (.int .i64 2)), none⟩]
@[reducible] def safe_Block.r2 : List MOp := [⟨some 6, .mov (.s 0), none⟩, ⟨some 7, .bin .lss (.s 6) (.c (.int .i64 0)), none⟩, ⟨some 8, .mov (.s 7), none⟩, ⟨some 9, .mov (.s 0), some (8, false)⟩, ⟨some 10, .bin .geq (.s 9) (.c (.int .i64 14)), some (8, false)⟩, ⟨some 11, .pick (.s 8) (.c (.bool true)) (.s 10), none⟩, ⟨some 5, .mov (.s 11), none⟩]
@[reducible] def safe_Block.r3 : List MOp := [⟨some 2, .mov (.c (.str ⟨#[]⟩)), none⟩, ⟨some 3, .mov (.c (.int .i64 0)), none⟩]
@[reducible] def safe_Block.r4 : List MOp := [⟨some 13, .mov (.s 0), none⟩, ⟨some 14, .mov (.s 4), none⟩, ⟨some 15, .bin .lss (.s 13) (.s 14), none⟩, ⟨some 12, .mov (.s 15), none⟩]
@[reducible] def safe_Block.r5 : List MOp := [⟨some 16, .mov (.s 0), none⟩, ⟨some 17, .bin .mul (.s 16) (.c (.int .i64 4)), none⟩, ⟨some 2, .mov (.c (.str ⟨#[105, 110, 111, 100, 101, 115]⟩)), none⟩, ⟨some 3, .mov (.s 17), none⟩]
@[reducible] def safe_Block.r6 : List MOp := [⟨some 19, .mov (.s 0), none⟩, ⟨some 20, .mov (.s 4), none⟩, ⟨some 21, .bin .add (.s 20) (.c (.int .i64 3)), none⟩, ⟨some 22, .bin .lss (.s 19) (.s 21), none⟩, ⟨some 18, .mov (.s 22), none⟩]
@[reducible] def safe_Block.r7 : List MOp := [⟨some 23, .mov (.s 0), none⟩, ⟨some 24, .mov (.s 4), none⟩, ⟨some 25, .bin .sub (.s 23) (.s 24), none⟩, ⟨some 2, .mov (.c (.str ⟨#[100, 105, 114]⟩)), none⟩, ⟨some 3, .mov (.s 25), none⟩]
@[reducible] def safe_Block.r8 : List MOp := [⟨some 26, .mov (.s 0), none⟩, ⟨some 27, .mov (.s 4), none⟩, ⟨some 28, .bin .sub (.s 26) (.s 27), none⟩, ⟨some 29, .bin .sub (.s 28) (.c (.int .i64 3)), none⟩, ⟨some 2, .mov (.c (.str ⟨#[100, 97, 116, 97]⟩)), none⟩, ⟨some 3, .mov (.s 29), none⟩]
@[reducible] def safe_Block.body : MC := (.seq (.reg false safe_Block.r0 [2, 3]) (.seq (.reg false safe_Block.r1 []) (.seq (.block 0 (.seq (.reg false safe_Block.r2 [6, 7, 8, 9, 10, 11]) (.cond (.s 5) (.seq (.reg false safe_Block.r3 []) .ret) (.seq (.reg false safe_Block.r4 [13, 14, 15]) (.cond (.s 12) (.seq (.reg false safe_Block.r5 [0, 16, 17]) .ret) (.seq (.reg false safe_Block.r6 [19, 20, 21, 22]) (.cond (.s 18) (.seq (.reg false safe_Block.r7 [0, 4, 23, 24, 25]) .ret) .skip))))))) (.seq (.reg false safe_Block.r8 [0, 4, 26, 27, 28, 29]) .ret))))
@[reducible] def safe_Block : MFun := { params := 1, nfree := 0, res := [.tmp 2, .tmp 3], body := safe_Block.body }
@[reducible] def safe_Write.r0 : List MOp := [⟨some 6, .alloc false tImage, none⟩, ⟨some 7, .mov (.c (.bool false)), none⟩]
@[reducible] def safe_Write.r1 : List MOp := [⟨some 13, .mov (.s 1), none⟩, ⟨some 14, .nilck (.s 13), none⟩, ⟨some 15, .load false none tImage (.s 14), none⟩, ⟨some 8, .alloc false tImage, none⟩, ⟨none, .store tImage [] (.s 8) (.s 15), none⟩]
@[reducible] def safe_Write.r2 : List MOp := [⟨some 17, .mov (.s 2), none⟩, ⟨some 18, .call false [] 7 [(.s 17)], none⟩, ⟨some 16, .mov (.s 18), none⟩, ⟨some 19, .ext (.s 16) 0, none⟩, ⟨some 20, .ext (.s 16) 1, none⟩, ⟨some 9, .mov (.s 19), none⟩, ⟨some 10, .mov (.s 20), none⟩]
@[reducible] def safe_Write.r3 : List MOp := [⟨some 21, .mov (.s 9), none⟩]
@[reducible] def safe_Write.r4 : List MOp := [⟨some 22, .mov (.s 1), none⟩, ⟨some 23, .nilck (.s 22), none⟩, ⟨some 24, .load false none tImage (.s 23), none⟩, ⟨none, .store tImage [] (.s 6) (.s 24), none⟩, ⟨some 7, .mov (.c (.bool false)), none⟩]
@[reducible] def safe_Write.r5 : List MOp := [⟨some 26, .bin .eql (.s 21) (.c (.str ⟨#[105, 110, 111, 100, 101, 115]⟩)), none⟩, ⟨some 25, .mov (.s 26), none⟩]
@[reducible] def safe_Write.r6 : List MOp := [⟨some 27, .mov (.s 10), none⟩, ⟨some 11, .mov (.s 27), none⟩]
@[reducible] def safe_Write.r7 : List MOp := [⟨some 28, .mov (.s 11), none⟩, ⟨some 29, .mov (.s 10), none⟩, ⟨some 30, .bin .add (.s 29) (.c (.int .i64 4)), none⟩, ⟨some 31, .bin .lss (.s 28) (.s 30), none⟩]
@[reducible] def safe_Write.r8 : List MOp := [⟨some 32, .mov (.s 11), none⟩, ⟨some 33, .bin .add (.s 32) (.c (.int .i64 1)), none⟩, ⟨some 11, .mov (.s 33), none⟩]
@[reducible] def safe_Write.r9 : List MOp := [⟨some 34, .mov (.s 11), none⟩, ⟨some 35, .mov (.s 0), none⟩, ⟨some 36, .mov (.s 1), none⟩, ⟨some 37, .mov (.s 11), none⟩, ⟨some 38, .call false [] 2 [(.s 35), (.s 36), (.s 37)], none⟩, ⟨some 39, .fld tImage 0 tInodes (.s 8), none⟩, ⟨some 40, .idx 8 tInode (.s 39) (.s 34), none⟩, ⟨none, .store tInode [] (.s 40) (.s 38), none⟩]
@[reducible] def safe_Write.r10 : List MOp := [⟨some 42, .bin .eql (.s 21) (.c (.str ⟨#[100, 105, 114]⟩)), none⟩, ⟨some 41, .mov (.s 42), none⟩]
@[reducible] def safe_Write.r11 : List MOp := [⟨some 43, .mov (.c (.int .i64 0)), none⟩]
@[reducible] def safe_Write.r12 : List MOp := [⟨some 44, .bin .lss (.s 43) (.c (.int .i64 4)), none⟩]
@[reducible] def safe_Write.r13 : List MOp := [⟨some 45, .mov (.s 43), none⟩, ⟨some 12, .mov (.s 45), none⟩]
@[reducible] def safe_Write.r14 : List MOp := [⟨some 46, .mov (.s 10), none⟩, ⟨some 47, .mov (.s 12), none⟩, ⟨some 48, .mov (.s 0), none⟩, ⟨some 49, .mov (.s 10), none⟩, ⟨some 50, .mov (.s 12), none⟩, ⟨some 51, .call false [] 4 [(.s 48), (.s 8), (.s 49), (.s 50)], none⟩, ⟨some 52, .fld tImage 1 tDirs (.s 8), none⟩, ⟨some 53, .idx 3 tRow (.s 52) (.s 46), none⟩, ⟨some 54, .idx 4 tEntry (.s 53) (.s 47), none⟩, ⟨none, .store tEntry [] (.s 54) (.s 51), none⟩]
@[reducible] def safe_Write.r15 : List MOp := [⟨some 55, .bin .add (.s 43) (.c (.int .i64 1)), none⟩, ⟨some 43, .mov (.s 55), none⟩]
@[reducible] def safe_Write.r16 : List MOp := [⟨some 57, .bin .eql (.s 21) (.c (.str ⟨#[100, 97, 116, 97]⟩)), none⟩, ⟨some 56, .mov (.s 57), none⟩]
@[reducible] def safe_Write.r17 : List MOp := [⟨some 58, .mov (.s 10), none⟩, ⟨some 59, .mov (.s 0), none⟩, ⟨some 60, .mov (.s 10), none⟩, ⟨some 61, .nilck (.s 59), none⟩, ⟨some 62, .fld tImage 2 tDatas (.s 61), none⟩, ⟨some 63, .idx 9 tData (.s 62) (.s 60), none⟩, ⟨some 64, .load false none tData (.s 63), none⟩, ⟨some 65, .fld tImage 2 tDatas (.s 8), none⟩, ⟨some 66, .idx 9 tData (.s 65) (.s 58), none⟩, ⟨none, .store tData [] (.s 66) (.s 64), none⟩]
@[reducible] def safe_Write.r18 : List MOp := [⟨some 67, .load false none tImage (.s 8), none⟩, ⟨none, .store tImage [] (.s 6) (.s 67), none⟩, ⟨some 7, .mov (.c (.bool true)), none⟩]
@[reducible] def safe_Write.body : MC := (.seq (.reg false safe_Write.r0 [7]) (.seq (.reg false safe_Write.r1 [13, 14, 15]) (.seq (.reg false safe_Write.r2 [2, 16, 17, 18, 19, 20]) (.seq (.seq (.reg false safe_Write.r3 [9]) (.block 0 (.seq (.reg false safe_Write.r5 [26]) (.cond (.s 25) (.seq (.reg false safe_Write.r6 [27]) (.block 1 (.loop [0, 1, 6, 8, 10, 11] [6, 8] (.seq (.seq (.reg false safe_Write.r7 [28, 29, 30]) (.cond (.s 31) .skip (.exit 1))) (.seq (.block 2 (.reg false safe_Write.r9 [34, 35, 36, 37, 38, 39, 40])) (.reg false safe_Write.r8 [32, 33])))))) (.seq (.reg false safe_Write.r10 [42]) (.cond (.s 41) (.seq (.reg false safe_Write.r11 []) (.block 3 (.loop [0, 6, 8, 10, 43] [6, 8] (.seq (.reg false safe_Write.r12 []) (.seq (.cond (.s 44) .skip (.exit 3)) (.seq (.block 4 (.seq (.reg false safe_Write.r13 [45]) (.reg true safe_Write.r14 [12, 46, 47, 48, 49, 50, 51, 52, 53, 54]))) (.reg false safe_Write.r15 [55]))))))) (.seq (.reg false safe_Write.r16 [21, 57]) (.cond (.s 56) (.reg false safe_Write.r17 [0, 10, 58, 59, 60, 61, 62, 63, 64, 65, 66]) (.seq (.reg false safe_Write.r4 [1, 22, 23, 24]) .ret))))))))) (.seq (.reg false safe_Write.r18 [8, 67]) .ret)))))
@[reducible] def safe_Write : MFun := { params := 3, nfree := 0, res := [.cell 6 tImage, .tmp 7], body := safe_Write.body }
@[reducible] def image_Refs.r0 : List MOp := [⟨some 4, .mov (.c (.int .i64 0)), none⟩]
@[reducible] def image_Refs.r1 : List MOp := [⟨some 5, .mov (.c (.int .i64 0)), none⟩]
@[reducible] def image_Refs.r2 : List MOp := [⟨some 10, .mov (.s 0), none⟩, ⟨some 11, .nilck (.s 10), none⟩, ⟨some 12, .fld tImage 1 tDirs (.s 11), none⟩, ⟨some 13, .load false none tDirs (.s 12), none⟩, ⟨some 14, .mov (.c (.int .i64 0)), none⟩]
@[reducible] def image_Refs.r3 : List MOp := [⟨some 15, .bin .lss (.s 14) (.c (.int .i64 3)), none⟩]
@[reducible] def image_Refs.r4 : List MOp := [⟨some 16, .aidx 3 tRow (.s 13) (.s 14), none⟩, ⟨some 7, .alloc false tRow, none⟩, ⟨none, .store tRow [] (.s 7) (.s 16), none⟩]
@[reducible] def image_Refs.r5 : List MOp := [⟨some 17, .load false none tRow (.s 7), none⟩, ⟨some 18, .mov (.c (.int .i64 0)), none⟩]
@[reducible] def image_Refs.r6 : List MOp := [⟨some 19, .bin .lss (.s 18) (.c (.int .i64 4)), none⟩]
@[reducible] def image_Refs.r7 : List MOp := [⟨some 20, .aidx 4 tEntry (.s 17) (.s 18), none⟩, ⟨some 9, .alloc false tEntry, none⟩, ⟨none, .store tEntry [] (.s 9) (.s 20), none⟩]
@[reducible] def image_Refs.r8 : List MOp := [⟨some 21, .fld tEntry 0 tS (.s 9), none⟩, ⟨some 22, .load false none tS (.s 21), none⟩, ⟨some 23, .bin .neq (.s 22) (.c (.str ⟨#[]⟩)), none⟩, ⟨some 24, .mov (.s 23), none⟩, ⟨some 25, .fld tEntry 1 tI (.s 9), some (24, true)⟩, ⟨some 26, .load false none tI (.s 25), some (24, true)⟩, ⟨some 27, .mov (.s 1), some (24, true)⟩, ⟨some 28, .bin .eql (.s 26) (.s 27), some (24, true)⟩, ⟨some 29, .pick (.s 24) (.s 28) (.c (.bool false)), none⟩]
@[reducible] def image_Refs.r9 : List MOp := [⟨some 30, .mov (.s 5), none⟩, ⟨some 31, .bin .add (.s 30) (.c (.int .i64 1)), none⟩, ⟨some 5, .mov (.s 31), none⟩]
@[reducible] def image_Refs.r10 : List MOp := [⟨some 32, .bin .add (.s 18) (.c (.int .i64 1)), none⟩, ⟨some 18, .mov (.s 32), none⟩]
@[reducible] def image_Refs.r11 : List MOp := [⟨some 33, .bin .add (.s 14) (.c (.int .i64 1)), none⟩, ⟨some 14, .mov (.s 33), none⟩]
@[reducible] def image_Refs.r12 : List MOp := [⟨some 34, .mov (.s 5), none⟩, ⟨some 4, .mov (.s 34), none⟩]
@[reducible] def image_Refs.body : MC := (.seq (.reg false image_Refs.r0 [4]) (.seq (.reg false image_Refs.r1 []) (.seq (.seq (.reg false image_Refs.r2 [0, 10, 11, 12]) (.block 0 (.loop [1, 5, 13, 14] [] (.seq (.reg false image_Refs.r3 []) (.seq (.cond (.s 15) .skip (.exit 0)) (.seq (.block 1 (.seq (.reg false image_Refs.r4 [16]) (.seq (.reg false image_Refs.r5 [7]) (.block 2 (.loop [1, 5, 13, 14, 17, 18] [] (.seq (.reg false image_Refs.r6 []) (.seq (.cond (.s 19) .skip (.exit 2)) (.seq (.block 3 (.seq (.reg false image_Refs.r7 [20]) (.seq (.reg false image_Refs.r8 [9, 21, 22, 23, 24, 25, 26, 27, 28]) (.cond (.s 29) (.reg false image_Refs.r9 [30, 31]) .skip)))) (.reg false image_Refs.r10 [32]))))))))) (.reg false image_Refs.r11 [33]))))))) (.seq (.reg false image_Refs.r12 [5, 34]) .ret))))
@[reducible] def image_Refs : MFun := { params := 2, nfree := 0, res := [.tmp 4], body := image_Refs.body }
@[reducible] def eiderdownref_None.r0 : List MOp := [⟨some 0, .alloc false tInode, none⟩]
@[reducible] def eiderdownref_None.r1 : List MOp := [⟨some 3, .build tInode [], none⟩, ⟨some 1, .alloc false tInode, none⟩, ⟨none, .store tInode [] (.s 1) (.s 3), none⟩]
@[reducible] def eiderdownref_None.r2 : List MOp := [⟨some 2, .mov (.c (.int .i64 0)), none⟩]
@[reducible] def eiderdownref_None.r3 : List MOp := [⟨some 4, .mov (.s 2), none⟩, ⟨some 5, .bin .lss (.s 4) (.c (.int .i64 2)), none⟩]
@[reducible] def eiderdownref_None.r4 : List MOp := [⟨some 6, .mov (.s 2), none⟩, ⟨some 7, .bin .add (.s 6) (.c (.int .i64 1)), none⟩, ⟨some 2, .mov (.s 7), none⟩]
@[reducible] def eiderdownref_None.r5 : List MOp := [⟨some 8, .mov (.s 2), none⟩, ⟨some 9, .fld tInode 3 tParts (.s 1), none⟩, ⟨some 10, .idx 2 tI (.s 9) (.s 8), none⟩, ⟨none, .store tI [] (.s 10) (.c (.int .i64 (-1))), none⟩]
@[reducible] def eiderdownref_None.r6 : List MOp := [⟨some 11, .load false none tInode (.s 1), none⟩, ⟨none, .store tInode [] (.s 0) (.s 11), none⟩]
@[reducible] def eiderdownref_None.body : MC := (.seq (.reg false eiderdownref_None.r0 []) (.seq (.reg false eiderdownref_None.r1 [3]) (.seq (.seq (.reg false eiderdownref_None.r2 []) (.block 0 (.loop [0, 1, 2] [0, 1] (.seq (.seq (.reg false eiderdownref_None.r3 [4]) (.cond (.s 5) .skip (.exit 0))) (.seq (.block 1 (.reg false eiderdownref_None.r5 [8, 9, 10])) (.reg false eiderdownref_None.r4 [6, 7])))))) (.seq (.reg false eiderdownref_None.r6 [1, 11]) .ret))))
@[reducible] def eiderdownref_None : MFun := { params := 0, nfree := 0, res := [.cell 0 tInode], body := eiderdownref_None.body }
@[reducible] def image_Name.r0 : List MOp := [⟨some 2, .mov (.c (.bool false)), none⟩]
@[reducible] def image_Name.r1 : List MOp := [⟨some 4, .mov (.s 0), none⟩, ⟨some 5, .len true (.s 4), none⟩, ⟨some 6, .mov (.c (.int .i64 0)), none⟩]
@[reducible] def image_Name.r2 : List MOp := [⟨some 7, .bin .lss (.s 6) (.s 5), none⟩]
@[reducible] def image_Name.r3 : List MOp := [⟨some 8, .mov (.s 6), none⟩, ⟨some 3, .mov (.s 8), none⟩]
@[reducible] def image_Name.r4 : List MOp := [⟨some 9, .mov (.s 0), none⟩, ⟨some 10, .mov (.s 3), none⟩, ⟨some 11, .stridx (.s 9) (.s 10), none⟩, ⟨some 12, .bin .lss (.s 11) (.c (.int .u8 97)), none⟩, ⟨some 13, .mov (.s 12), none⟩, ⟨some 14, .mov (.s 0), some (13, false)⟩, ⟨some 15, .mov (.s 3), some (13, false)⟩, ⟨some 16, .stridx (.s 14) (.s 15), some (13, false)⟩, ⟨some 17, .bin .gtr (.s 16) (.c (.int .u8 122)), some (13, false)⟩, ⟨some 18, .pick (.s 13) (.c (.bool true)) (.s 17), none⟩]
@[reducible] def image_Name.r5 : List MOp := [⟨some 2, .mov (.c (.bool false)), none⟩]
@[reducible] def image_Name.r6 : List MOp := [⟨some 19, .bin .add (.s 6) (.c (.int .i64 1)), none⟩, ⟨some 6, .mov (.s 19), none⟩]
@[reducible] def image_Name.r7 : List MOp := [⟨some 20, .mov (.s 0), none⟩, ⟨some 21, .bin .neq (.s 20) (.c (.str ⟨#[]⟩)), none⟩, ⟨some 22, .mov (.s 21), none⟩, ⟨some 23, .mov (.s 0), some (22, true)⟩, ⟨some 24, .len true (.s 23), some (22, true)⟩, ⟨some 25, .bin .leq (.s 24) (.c (.int .i64 6)), some (22, true)⟩, ⟨some 26, .pick (.s 22) (.s 25) (.c (.bool false)), none⟩, ⟨some 2, .mov (.s 26), none⟩]
@[reducible] def image_Name.body : MC := (.seq (.reg false image_Name.r0 [2]) (.seq (.seq (.reg false image_Name.r1 [4]) (.block 0 (.loop [0, 5, 6] [5] (.seq (.reg false image_Name.r2 []) (.seq (.cond (.s 7) .skip (.exit 0)) (.seq (.block 1 (.seq (.reg false image_Name.r3 [8]) (.seq (.reg false image_Name.r4 [3, 9, 10, 11, 12, 13, 14, 15, 16, 17]) (.cond (.s 18) (.seq (.reg false image_Name.r5 []) .ret) .skip)))) (.reg false image_Name.r6 [19]))))))) (.seq (.reg false image_Name.r7 [0, 20, 21, 22, 23, 24, 25, 26]) .ret)))
@[reducible] def image_Name : MFun := { params := 1, nfree := 0, res := [.tmp 2], body := image_Name.body }
@[reducible] def eiderdownref_IsName.r0 : List MOp := [⟨some 2, .mov (.c (.bool false)), none⟩]
@[reducible] def eiderdownref_IsName.r1 : List MOp := [⟨some 4, .mov (.s 0), none⟩, ⟨some 5, .len true (.s 4), none⟩, ⟨some 6, .bin .lss (.s 5) (.c (.int .i64 1)), none⟩, ⟨some 7, .mov (.s 6), none⟩, ⟨some 8, .mov (.s 0), some (7, false)⟩, ⟨some 9, .len true (.s 8), some (7, false)⟩, ⟨some 10, .bin .gtr (.s 9) (.c (.int .i64 6)), some (7, false)⟩, ⟨some 11, .pick (.s 7) (.c (.bool true)) (.s 10), none⟩]
@[reducible] def eiderdownref_IsName.r2 : List MOp := [⟨some 2, .mov (.c (.bool false)), none⟩]
@[reducible] def eiderdownref_IsName.r3 : List MOp := [⟨some 3, .mov (.c (.int .i64 0)), none⟩]
@[reducible] def eiderdownref_IsName.r4 : List MOp := [⟨some 12, .mov (.s 3), none⟩, ⟨some 13, .mov (.s 0), none⟩, ⟨some 14, .len true (.s 13), none⟩, ⟨some 15, .bin .lss (.s 12) (.s 14), none⟩]
@[reducible] def eiderdownref_IsName.r5 : List MOp := [⟨some 16, .mov (.s 3), none⟩, ⟨some 17, .bin .add (.s 16) (.c (.int .i64 1)), none⟩, ⟨some 3, .mov (.s 17), none⟩]
@[reducible] def eiderdownref_IsName.r6 : List MOp := [⟨some 18, .mov (.s 0), none⟩, ⟨some 19, .mov (.s 3), none⟩, ⟨some 20, .stridx (.s 18) (.s 19), none⟩, ⟨some 21, .bin .lss (.s 20) (.c (.int .u8 97)), none⟩, ⟨some 22, .mov (.s 21), none⟩, ⟨some 23, .mov (.s 0), some (22, false)⟩, ⟨some 24, .mov (.s 3), some (22, false)⟩, ⟨some 25, .stridx (.s 23) (.s 24), some (22, false)⟩, ⟨some 26, .bin .gtr (.s 25) (.c (.int .u8 122)), some (22, false)⟩, ⟨some 27, .pick (.s 22) (.c (.bool true)) (.s 26), none⟩]
@[reducible] def eiderdownref_IsName.r7 : List MOp := [⟨some 2, .mov (.c (.bool false)), none⟩]
@[reducible] def eiderdownref_IsName.r8 : List MOp := [⟨some 2, .mov (.c (.bool true)), none⟩]
@[reducible] def eiderdownref_IsName.body : MC := (.seq (.reg false eiderdownref_IsName.r0 [2]) (.seq (.seq (.reg false eiderdownref_IsName.r1 [4, 5, 6, 7, 8, 9, 10]) (.cond (.s 11) (.seq (.reg false eiderdownref_IsName.r2 []) .ret) .skip)) (.seq (.seq (.reg false eiderdownref_IsName.r3 []) (.block 0 (.loop [0, 3] [] (.seq (.seq (.reg false eiderdownref_IsName.r4 [12, 13, 14]) (.cond (.s 15) .skip (.exit 0))) (.seq (.block 1 (.seq (.reg false eiderdownref_IsName.r6 [18, 19, 20, 21, 22, 23, 24, 25, 26]) (.cond (.s 27) (.seq (.reg false eiderdownref_IsName.r7 []) .ret) .skip))) (.reg false eiderdownref_IsName.r5 [16, 17])))))) (.seq (.reg false eiderdownref_IsName.r8 []) .ret))))
@[reducible] def eiderdownref_IsName : MFun := { params := 1, nfree := 0, res := [.tmp 2], body := eiderdownref_IsName.body }
@[reducible] def eiderdownref_Leads.r0 : List MOp := [⟨some 4, .mov (.c (.int .i64 0)), none⟩]
@[reducible] def eiderdownref_Leads.r1 : List MOp := [⟨some 5, .mov (.c (.int .i64 0)), none⟩]
@[reducible] def eiderdownref_Leads.r2 : List MOp := [⟨some 6, .mov (.c (.int .i64 0)), none⟩]
@[reducible] def eiderdownref_Leads.r3 : List MOp := [⟨some 8, .mov (.s 6), none⟩, ⟨some 9, .bin .lss (.s 8) (.c (.int .i64 3)), none⟩]
@[reducible] def eiderdownref_Leads.r4 : List MOp := [⟨some 10, .mov (.s 6), none⟩, ⟨some 11, .bin .add (.s 10) (.c (.int .i64 1)), none⟩, ⟨some 6, .mov (.s 11), none⟩]
@[reducible] def eiderdownref_Leads.r5 : List MOp := [⟨some 7, .mov (.c (.int .i64 0)), none⟩]
@[reducible] def eiderdownref_Leads.r6 : List MOp := [⟨some 12, .mov (.s 7), none⟩, ⟨some 13, .bin .lss (.s 12) (.c (.int .i64 4)), none⟩]
@[reducible] def eiderdownref_Leads.r7 : List MOp := [⟨some 14, .mov (.s 7), none⟩, ⟨some 15, .bin .add (.s 14) (.c (.int .i64 1)), none⟩, ⟨some 7, .mov (.s 15), none⟩]
@[reducible] def eiderdownref_Leads.r8 : List MOp := [⟨some 16, .mov (.s 0), none⟩, ⟨some 17, .mov (.s 6), none⟩, ⟨some 18, .mov (.s 7), none⟩, ⟨some 19, .mov (.s 1), none⟩, ⟨some 20, .call false [] 31 [(.s 16), (.s 17), (.s 18), (.s 19)], none⟩]
@[reducible] def eiderdownref_Leads.r9 : List MOp := [⟨some 21, .mov (.s 5), none⟩, ⟨some 22, .bin .add (.s 21) (.c (.int .i64 1)), none⟩, ⟨some 5, .mov (.s 22), none⟩]
@[reducible] def eiderdownref_Leads.r10 : List MOp := [⟨some 23, .mov (.s 5), none⟩, ⟨some 4, .mov (.s 23), none⟩]
@[reducible] def eiderdownref_Leads.body : MC := (.seq (.reg false eiderdownref_Leads.r0 [4]) (.seq (.reg false eiderdownref_Leads.r1 []) (.seq (.seq (.reg false eiderdownref_Leads.r2 []) (.block 0 (.loop [0, 1, 5, 6] [] (.seq (.seq (.reg false eiderdownref_Leads.r3 [8]) (.cond (.s 9) .skip (.exit 0))) (.seq (.block 1 (.seq (.reg false eiderdownref_Leads.r5 []) (.block 2 (.loop [0, 1, 5, 6, 7] [] (.seq (.seq (.reg false eiderdownref_Leads.r6 [12]) (.cond (.s 13) .skip (.exit 2))) (.seq (.block 3 (.seq (.reg false eiderdownref_Leads.r8 [16, 17, 18, 19]) (.cond (.s 20) (.reg false eiderdownref_Leads.r9 [21, 22]) .skip))) (.reg false eiderdownref_Leads.r7 [14, 15]))))))) (.reg false eiderdownref_Leads.r4 [10, 11])))))) (.seq (.reg false eiderdownref_Leads.r10 [5, 23]) .ret))))
@[reducible] def eiderdownref_Leads : MFun := { params := 2, nfree := 0, res := [.tmp 4], body := eiderdownref_Leads.body }
@[reducible] def image_Holds.r0 : List MOp := [⟨some 4, .mov (.c (.bool false)), none⟩]
@[reducible] def image_Holds.r1 : List MOp := [⟨some 7, .mov (.s 0), none⟩, ⟨some 8, .nilck (.s 7), none⟩, ⟨some 9, .fld tImage 0 tInodes (.s 8), none⟩, ⟨some 10, .load false none tInodes (.s 9), none⟩, ⟨some 11, .mov (.c (.int .i64 0)), none⟩]
@[reducible] def image_Holds.r2 : List MOp := [⟨some 12, .bin .lss (.s 11) (.c (.int .i64 8)), none⟩]
@[reducible] def image_Holds.r3 : List MOp := [⟨some 13, .aidx 8 tInode (.s 10) (.s 11), none⟩, ⟨some 6, .alloc false tInode, none⟩, ⟨none, .store tInode [] (.s 6) (.s 13), none⟩]
@[reducible] def image_Holds.r4 : List MOp := [⟨some 14, .fld tInode 0 tB (.s 6), none⟩, ⟨some 15, .load false none tB (.s 14), none⟩, ⟨some 16, .mov (.s 15), none⟩, ⟨some 17, .fld tInode 3 tParts (.s 6), some (16, true)⟩, ⟨some 18, .idx 2 tI (.s 17) (.c (.int .i64 0)), some (16, true)⟩, ⟨some 19, .load false none tI (.s 18), some (16, true)⟩, ⟨some 20, .mov (.s 1), some (16, true)⟩, ⟨some 21, .bin .eql (.s 19) (.s 20), some (16, true)⟩, ⟨some 22, .pick (.s 16) (.s 21) (.c (.bool false)), none⟩, ⟨some 23, .mov (.s 22), none⟩, ⟨some 24, .fld tInode 0 tB (.s 6), some (23, false)⟩, ⟨some 25, .load false none tB (.s 24), some (23, false)⟩, ⟨some 26, .mov (.s 25), some (23, false)⟩, ⟨some 27, .fld tInode 3 tParts (.s 6), some (26, true)⟩, ⟨some 28, .idx 2 tI (.s 27) (.c (.int .i64 1)), some (26, true)⟩, ⟨some 29, .load false none tI (.s 28), some (26, true)⟩, ⟨some 30, .mov (.s 1), some (26, true)⟩, ⟨some 31, .bin .eql (.s 29) (.s 30), some (26, true)⟩, ⟨some 32, .pick (.s 26) (.s 31) (.c (.bool false)), some (23, false)⟩, ⟨some 33, .pick (.s 23) (.c (.bool true)) (.s 32), none⟩]
@[reducible] def image_Holds.r5 : List MOp := [⟨some 4, .mov (.c (.bool true)), none⟩]
@[reducible] def image_Holds.r6 : List MOp := [⟨some 34, .bin .add (.s 11) (.c (.int .i64 1)), none⟩, ⟨some 11, .mov (.s 34), none⟩]
@[reducible] def image_Holds.r7 : List MOp := [⟨some 4, .mov (.c (.bool false)), none⟩]
@[reducible] def image_Holds.body : MC := (.seq (.reg false image_Holds.r0 [4]) (.seq (.seq (.reg false image_Holds.r1 [0, 7, 8, 9]) (.block 0 (.loop [1, 10, 11] [] (.seq (.reg false image_Holds.r2 []) (.seq (.cond (.s 12) .skip (.exit 0)) (.seq (.block 1 (.seq (.reg false image_Holds.r3 [13]) (.seq (.reg false image_Holds.r4 [6, 14, 15, 16, 17, 18, 19, 20, 21, 22, 23, 24, 25, 26, 27, 28, 29, 30, 31, 32]) (.cond (.s 33) (.seq (.reg false image_Holds.r5 []) .ret) .skip)))) (.reg false image_Holds.r6 [34]))))))) (.seq (.reg false image_Holds.r7 []) .ret)))
@[reducible] def image_Holds : MFun := { params := 2, nfree := 0, res := [.tmp 4], body := image_Holds.body }
@[reducible] def image_Find.r0 : List MOp := [⟨some 6, .mov (.c (.int .i64 0)), none⟩]
@[reducible] def image_Find.r1 : List MOp := [⟨some 9, .mov (.s 1), none⟩, ⟨some 10, .bin .lss (.s 9) (.c (.int .i64 0)), none⟩, ⟨some 11, .mov (.s 10), none⟩, ⟨some 12, .mov (.s 1), some (11, false)⟩, ⟨some 13, .bin .geq (.s 12) (.c (.int .i64 3)), some (11, false)⟩, ⟨some 14, .pick (.s 11) (.c (.bool true)) (.s 13), none⟩, ⟨some 15, .mov (.s 14), none⟩, ⟨some 16, .mov (.s 2), some (15, false)⟩, ⟨some 17, .bin .eql (.s 16) (.c (.str ⟨#[]⟩)), some (15, false)⟩, ⟨some 18, .pick (.s 15) (.c (.bool true)) (.s 17), none⟩]
@[reducible] def image_Find.r2 : List MOp := [⟨some 6, .mov (.c (.int .i64 (-1))), none⟩]
@[reducible] def image_Find.r3 : List MOp := [⟨some 19, .mov (.s 0), none⟩, ⟨some 20, .mov (.s 1), none⟩, ⟨some 21, .nilck (.s 19), none⟩, ⟨some 22, .fld tImage 1 tDirs (.s 21), none⟩, ⟨some 23, .idx 3 tRow (.s 22) (.s 20), none⟩, ⟨some 24, .load false none tRow (.s 23), none⟩, ⟨some 25, .mov (.c (.int .i64 0)), none⟩]
@[reducible] def image_Find.r4 : List MOp := [⟨some 26, .bin .lss (.s 25) (.c (.int .i64 4)), none⟩]
@[reducible] def image_Find.r5 : List MOp := [⟨some 27, .mov (.s 25), none⟩, ⟨some 28, .aidx 4 tEntry (.s 24) (.s 25), none⟩, ⟨some 8, .alloc false tEntry, none⟩, ⟨some 7, .mov (.s 27), none⟩, ⟨none, .store tEntry [] (.s 8) (.s 28), none⟩]
@[reducible] def image_Find.r6 : List MOp := [⟨some 29, .fld tEntry 0 tS (.s 8), none⟩, ⟨some 30, .load false none tS (.s 29), none⟩, ⟨some 31, .mov (.s 2), none⟩, ⟨some 32, .bin .eql (.s 30) (.s 31), none⟩]
@[reducible] def image_Find.r7 : List MOp := [⟨some 33, .mov (.s 7), none⟩, ⟨some 6, .mov (.s 33), none⟩]
@[reducible] def image_Find.r8 : List MOp := [⟨some 34, .bin .add (.s 25) (.c (.int .i64 1)), none⟩, ⟨some 25, .mov (.s 34), none⟩]
@[reducible] def image_Find.r9 : List MOp := [⟨some 6, .mov (.c (.int .i64 (-1))), none⟩]
@[reducible] def image_Find.body : MC := (.seq (.reg false image_Find.r0 [6]) (.seq (.seq (.reg false image_Find.r1 [9, 10, 11, 12, 13, 14, 15, 16, 17]) (.cond (.s 18) (.seq (.reg false image_Find.r2 []) .ret) .skip)) (.seq (.seq (.reg false image_Find.r3 [0, 1, 19, 20, 21, 22, 23]) (.block 0 (.loop [2, 24, 25] [] (.seq (.reg false image_Find.r4 []) (.seq (.cond (.s 26) .skip (.exit 0)) (.seq (.block 1 (.seq (.reg false image_Find.r5 [27, 28]) (.seq (.reg false image_Find.r6 [8, 29, 30, 31]) (.cond (.s 32) (.seq (.reg false image_Find.r7 [7, 33]) .ret) .skip)))) (.reg false image_Find.r8 [34]))))))) (.seq (.reg false image_Find.r9 []) .ret))))
@[reducible] def image_Find : MFun := { params := 3, nfree := 0, res := [.tmp 6], body := image_Find.body }
@[reducible] def eiderdownref_SlotOf.r0 : List MOp := [⟨some 6, .mov (.c (.int .i64 0)), none⟩]
@[reducible] def eiderdownref_SlotOf.r1 : List MOp := [⟨some 8, .mov (.s 1), none⟩, ⟨some 9, .bin .lss (.s 8) (.c (.int .i64 0)), none⟩, ⟨some 10, .mov (.s 9), none⟩, ⟨some 11, .mov (.s 1), some (10, false)⟩, ⟨some 12, .bin .geq (.s 11) (.c (.int .i64 3)), some (10, false)⟩, ⟨some 13, .pick (.s 10) (.c (.bool true)) (.s 12), none⟩, ⟨some 14, .mov (.s 13), none⟩, ⟨some 15, .mov (.s 2), some (14, false)⟩, ⟨some 16, .bin .eql (.s 15) (.c (.str ⟨#[]⟩)), some (14, false)⟩, ⟨some 17, .pick (.s 14) (.c (.bool true)) (.s 16), none⟩]
@[reducible] def eiderdownref_SlotOf.r2 : List MOp := [⟨some 6, .mov (.c (.int .i64 (-1))), none⟩]
@[reducible] def eiderdownref_SlotOf.r3 : List MOp := [⟨some 7, .mov (.c (.int .i64 0)), none⟩]
@[reducible] def eiderdownref_SlotOf.r4 : List MOp := [⟨some 18, .mov (.s 7), none⟩, ⟨some 19, .bin .lss (.s 18) (.c (.int .i64 4)), none⟩]
@[reducible] def eiderdownref_SlotOf.r5 : List MOp := [⟨some 20, .mov (.s 7), none⟩, ⟨some 21, .bin .add (.s 20) (.c (.int .i64 1)), none⟩, ⟨some 7, .mov (.s 21), none⟩]
@[reducible] def eiderdownref_SlotOf.r6 : List MOp := [⟨some 22, .mov (.s 0), none⟩, ⟨some 23, .mov (.s 1), none⟩, ⟨some 24, .mov (.s 7), none⟩, ⟨some 25, .nilck (.s 22), none⟩, ⟨some 26, .fld tImage 1 tDirs (.s 25), none⟩, ⟨some 27, .idx 3 tRow (.s 26) (.s 23), none⟩, ⟨some 28, .idx 4 tEntry (.s 27) (.s 24), none⟩, ⟨some 29, .fld tEntry 0 tS (.s 28), none⟩, ⟨some 30, .load false none tS (.s 29), none⟩, ⟨some 31, .mov (.s 2), none⟩, ⟨some 32, .bin .eql (.s 30) (.s 31), none⟩]
@[reducible] def eiderdownref_SlotOf.r7 : List MOp := [⟨some 33, .mov (.s 7), none⟩, ⟨some 6, .mov (.s 33), none⟩]
@[reducible] def eiderdownref_SlotOf.r8 : List MOp := [⟨some 6, .mov (.c (.int .i64 (-1))), none⟩]
@[reducible] def eiderdownref_SlotOf.body : MC := (.seq (.reg false eiderdownref_SlotOf.r0 [6]) (.seq (.seq (.reg false eiderdownref_SlotOf.r1 [8, 9, 10, 11, 12, 13, 14, 15, 16]) (.cond (.s 17) (.seq (.reg false eiderdownref_SlotOf.r2 []) .ret) .skip)) (.seq (.seq (.reg false eiderdownref_SlotOf.r3 []) (.block 0 (.loop [0, 1, 2, 7] [] (.seq (.seq (.reg false eiderdownref_SlotOf.r4 [18]) (.cond (.s 19) .skip (.exit 0))) (.seq (.block 1 (.seq (.reg false eiderdownref_SlotOf.r6 [22, 23, 24, 25, 26, 27, 28, 29, 30, 31]) (.cond (.s 32) (.seq (.reg false eiderdownref_SlotOf.r7 [7, 33]) .ret) .skip))) (.reg false eiderdownref_SlotOf.r5 [20, 21])))))) (.seq (.reg false eiderdownref_SlotOf.r8 []) .ret))))
@[reducible] def eiderdownref_SlotOf : MFun := { params := 3, nfree := 0, res := [.tmp 6], body := eiderdownref_SlotOf.body }
@[reducible] def image_Check.r0 : List MOp := [⟨some 2, .mov (.c (.int .i64 0)), none⟩]
@[reducible] def image_Check.r1 : List MOp := [⟨some 8, .mov (.c (.int .i64 0)), none⟩]
@[reducible] def image_Check.r2 : List MOp := [⟨some 9, .bin .lss (.s 8) (.c (.int .i64 3)), none⟩]
@[reducible] def image_Check.r3 : List MOp := [⟨some 10, .mov (.s 8), none⟩, ⟨some 3, .mov (.s 10), none⟩]
@[reducible] def image_Check.r4 : List MOp := [⟨some 11, .mov (.c (.int .i64 0)), none⟩]
@[reducible] def image_Check.r5 : List MOp := [⟨some 12, .bin .lss (.s 11) (.c (.int .i64 4)), none⟩]
@[reducible] def image_Check.r6 : List MOp := [⟨some 13, .mov (.s 11), none⟩, ⟨some 4, .mov (.s 13), none⟩]
@[reducible] def image_Check.r7 : List MOp := [⟨some 14, .mov (.s 0), none⟩, ⟨some 15, .mov (.s 3), none⟩, ⟨some 16, .mov (.s 4), none⟩, ⟨some 17, .call false [] 37 [(.s 14), (.s 15), (.s 16)], none⟩, ⟨some 5, .mov (.s 17), none⟩]
@[reducible] def image_Check.r8 : List MOp := [⟨some 18, .mov (.s 5), none⟩, ⟨some 19, .bin .neq (.s 18) (.c (.int .i64 0)), none⟩]
@[reducible] def image_Check.r9 : List MOp := [⟨some 20, .mov (.s 5), none⟩, ⟨some 2, .mov (.s 20), none⟩]
@[reducible] def image_Check.r10 : List MOp := [⟨some 21, .bin .add (.s 11) (.c (.int .i64 1)), none⟩, ⟨some 11, .mov (.s 21), none⟩]
@[reducible] def image_Check.r11 : List MOp := [⟨some 22, .bin .add (.s 8) (.c (.int .i64 1)), none⟩, ⟨some 8, .mov (.s 22), none⟩]
@[reducible] def image_Check.r12 : List MOp := [⟨some 23, .mov (.c (.int .i64 0)), none⟩]
@[reducible] def image_Check.r13 : List MOp := [⟨some 24, .bin .lss (.s 23) (.c (.int .i64 8)), none⟩]
@[reducible] def image_Check.r14 : List MOp := [⟨some 25, .mov (.s 23), none⟩, ⟨some 6, .mov (.s 25), none⟩]
@[reducible] def image_Check.r15 : List MOp := [⟨some 26, .mov (.s 0), none⟩, ⟨some 27, .mov (.s 6), none⟩, ⟨some 28, .call false [] 36 [(.s 26), (.s 27)], none⟩, ⟨some 7, .mov (.s 28), none⟩]
@[reducible] def image_Check.r16 : List MOp := [⟨some 29, .mov (.s 7), none⟩, ⟨some 30, .bin .neq (.s 29) (.c (.int .i64 0)), none⟩]
@[reducible] def image_Check.r17 : List MOp := [⟨some 31, .mov (.s 7), none⟩, ⟨some 2, .mov (.s 31), none⟩]
@[reducible] def image_Check.r18 : List MOp := [⟨some 32, .bin .add (.s 23) (.c (.int .i64 1)), none⟩, ⟨some 23, .mov (.s 32), none⟩]
@[reducible] def image_Check.r19 : List MOp := [⟨some 33, .mov (.s 0), none⟩, ⟨some 34, .call false [] 35 [(.s 33)], none⟩]
@[reducible] def image_Check.r20 : List MOp := [⟨some 2, .mov (.c (.int .i64 11)), none⟩]
@[reducible] def image_Check.r21 : List MOp := [⟨some 2, .mov (.c (.int .i64 0)), none⟩]
@[reducible] def image_Check.body : MC := (.seq (.reg false image_Check.r0 [2]) (.seq (.seq (.reg false image_Check.r1 []) (.block 0 (.loop [0, 8] [] (.seq (.reg false image_Check.r2 []) (.seq (.cond (.s 9) .skip (.exit 0)) (.seq (.block 1 (.seq (.reg false image_Check.r3 [10]) (.seq (.reg false image_Check.r4 []) (.block 2 (.loop [0, 3, 8, 11] [] (.seq (.reg false image_Check.r5 []) (.seq (.cond (.s 12) .skip (.exit 2)) (.seq (.block 3 (.seq (.reg false image_Check.r6 [13]) (.seq (.reg false image_Check.r7 [4, 14, 15, 16, 17]) (.seq (.reg false image_Check.r8 [18]) (.cond (.s 19) (.seq (.reg false image_Check.r9 [5, 20]) .ret) .skip))))) (.reg false image_Check.r10 [21]))))))))) (.reg false image_Check.r11 [22]))))))) (.seq (.seq (.reg false image_Check.r12 []) (.block 4 (.loop [0, 23] [] (.seq (.reg false image_Check.r13 []) (.seq (.cond (.s 24) .skip (.exit 4)) (.seq (.block 5 (.seq (.reg false image_Check.r14 [25]) (.seq (.reg false image_Check.r15 [6, 26, 27, 28]) (.seq (.reg false image_Check.r16 [29]) (.cond (.s 30) (.seq (.reg false image_Check.r17 [7, 31]) .ret) .skip))))) (.reg false image_Check.r18 [32]))))))) (.seq (.seq (.reg false image_Check.r19 [0, 33]) (.cond (.s 34) (.seq (.reg false image_Check.r20 []) .ret) .skip)) (.seq (.reg false image_Check.r21 []) .ret)))))
@[reducible] def image_Check : MFun := { params := 1, nfree := 0, res := [.tmp 2], body := image_Check.body }
@[reducible] def eiderdownref_ImageFault.r0 : List MOp := [⟨some 2, .mov (.c (.int .i64 0)), none⟩]
@[reducible] def eiderdownref_ImageFault.r1 : List MOp := [⟨some 3, .mov (.c (.int .i64 0)), none⟩]
@[reducible] def eiderdownref_ImageFault.r2 : List MOp := [⟨some 14, .mov (.s 3), none⟩, ⟨some 15, .bin .lss (.s 14) (.c (.int .i64 3)), none⟩]
@[reducible] def eiderdownref_ImageFault.r3 : List MOp := [⟨some 16, .mov (.s 3), none⟩, ⟨some 17, .bin .add (.s 16) (.c (.int .i64 1)), none⟩, ⟨some 3, .mov (.s 17), none⟩]
@[reducible] def eiderdownref_ImageFault.r4 : List MOp := [⟨some 4, .mov (.c (.int .i64 0)), none⟩]
@[reducible] def eiderdownref_ImageFault.r5 : List MOp := [⟨some 18, .mov (.s 4), none⟩, ⟨some 19, .bin .lss (.s 18) (.c (.int .i64 4)), none⟩]
@[reducible] def eiderdownref_ImageFault.r6 : List MOp := [⟨some 20, .mov (.s 4), none⟩, ⟨some 21, .bin .add (.s 20) (.c (.int .i64 1)), none⟩, ⟨some 4, .mov (.s 21), none⟩]
@[reducible] def eiderdownref_ImageFault.r7 : List MOp := [⟨some 22, .mov (.s 0), none⟩, ⟨some 23, .mov (.s 3), none⟩, ⟨some 24, .mov (.s 4), none⟩, ⟨some 25, .nilck (.s 22), none⟩, ⟨some 26, .fld tImage 1 tDirs (.s 25), none⟩, ⟨some 27, .idx 3 tRow (.s 26) (.s 23), none⟩, ⟨some 28, .idx 4 tEntry (.s 27) (.s 24), none⟩, ⟨some 29, .load false none tEntry (.s 28), none⟩, ⟨some 5, .alloc false tEntry, none⟩, ⟨none, .store tEntry [] (.s 5) (.s 29), none⟩]
@[reducible] def eiderdownref_ImageFault.r8 : List MOp := [⟨some 30, .fld tEntry 0 tS (.s 5), none⟩, ⟨some 31, .load false none tS (.s 30), none⟩, ⟨some 32, .bin .eql (.s 31) (.c (.str ⟨#[]⟩)), none⟩]
@[reducible] def eiderdownref_ImageFault.r9 : List MOp := [⟨some 33, .fld tEntry 1 tI (.s 5), none⟩, ⟨some 34, .load false none tI (.s 33), none⟩, ⟨some 35, .bin .neq (.s 34) (.c (.int .i64 0)), none⟩, ⟨some 36, .mov (.s 35), none⟩, ⟨some 37, .fld tEntry 2 tI (.s 5), some (36, false)⟩, ⟨some 38, .load false none tI (.s 37), some (36, false)⟩, ⟨some 39, .bin .neq (.s 38) (.c (.int .i64 0)), some (36, false)⟩, ⟨some 40, .pick (.s 36) (.c (.bool true)) (.s 39), none⟩]
@[reducible] def eiderdownref_ImageFault.r10 : List MOp := [⟨some 2, .mov (.c (.int .i64 12)), none⟩]
@[reducible] def eiderdownref_ImageFault.r11 : List MOp := [⟨some 41, .fld tEntry 0 tS (.s 5), none⟩, ⟨some 42, .load false none tS (.s 41), none⟩, ⟨some 43, .call false [] 15 [(.s 42)], none⟩, ⟨some 44, .un .not (.s 43), none⟩]
@[reducible] def eiderdownref_ImageFault.r12 : List MOp := [⟨some 2, .mov (.c (.int .i64 2)), none⟩]
@[reducible] def eiderdownref_ImageFault.r13 : List MOp := [⟨some 45, .mov (.s 0), none⟩, ⟨some 46, .mov (.s 3), none⟩, ⟨some 47, .fld tEntry 0 tS (.s 5), none⟩, ⟨some 48, .load false none tS (.s 47), none⟩, ⟨some 49, .call false [] 20 [(.s 45), (.s 46), (.s 48)], none⟩, ⟨some 50, .mov (.s 4), none⟩, ⟨some 51, .bin .lss (.s 49) (.s 50), none⟩]
@[reducible] def eiderdownref_ImageFault.r14 : List MOp := [⟨some 2, .mov (.c (.int .i64 4)), none⟩]
@[reducible] def eiderdownref_ImageFault.r15 : List MOp := [⟨some 52, .fld tEntry 1 tI (.s 5), none⟩, ⟨some 53, .load false none tI (.s 52), none⟩, ⟨some 54, .bin .lss (.s 53) (.c (.int .i64 0)), none⟩, ⟨some 55, .mov (.s 54), none⟩, ⟨some 56, .fld tEntry 1 tI (.s 5), some (55, false)⟩, ⟨some 57, .load false none tI (.s 56), some (55, false)⟩, ⟨some 58, .bin .geq (.s 57) (.c (.int .i64 8)), some (55, false)⟩, ⟨some 59, .pick (.s 55) (.c (.bool true)) (.s 58), none⟩]
@[reducible] def eiderdownref_ImageFault.r16 : List MOp := [⟨some 2, .mov (.c (.int .i64 1)), none⟩]
@[reducible] def eiderdownref_ImageFault.r17 : List MOp := [⟨some 60, .mov (.s 0), none⟩, ⟨some 61, .fld tEntry 1 tI (.s 5), none⟩, ⟨some 62, .load false none tI (.s 61), none⟩, ⟨some 63, .nilck (.s 60), none⟩, ⟨some 64, .fld tImage 0 tInodes (.s 63), none⟩, ⟨some 65, .idx 8 tInode (.s 64) (.s 62), none⟩, ⟨some 66, .fld tInode 0 tB (.s 65), none⟩, ⟨some 67, .load false none tB (.s 66), none⟩, ⟨some 68, .un .not (.s 67), none⟩, ⟨some 69, .mov (.s 68), none⟩, ⟨some 70, .mov (.s 0), some (69, false)⟩, ⟨some 71, .fld tEntry 1 tI (.s 5), some (69, false)⟩, ⟨some 72, .load false none tI (.s 71), some (69, false)⟩, ⟨some 73, .nilck (.s 70), some (69, false)⟩, ⟨some 74, .fld tImage 0 tInodes (.s 73), some (69, false)⟩, ⟨some 75, .idx 8 tInode (.s 74) (.s 72), some (69, false)⟩, ⟨some 76, .fld tInode 1 tI (.s 75), some (69, false)⟩, ⟨some 77, .load false none tI (.s 76), some (69, false)⟩, ⟨some 78, .fld tEntry 2 tI (.s 5), some (69, false)⟩, ⟨some 79, .load false none tI (.s 78), some (69, false)⟩, ⟨some 80, .bin .neq (.s 77) (.s 79), some (69, false)⟩, ⟨some 81, .pick (.s 69) (.c (.bool true)) (.s 80), none⟩]
@[reducible] def eiderdownref_ImageFault.r18 : List MOp := [⟨some 2, .mov (.c (.int .i64 8)), none⟩]
@[reducible] def eiderdownref_ImageFault.r19 : List MOp := [⟨some 6, .mov (.c (.int .i64 0)), none⟩]
@[reducible] def eiderdownref_ImageFault.r20 : List MOp := [⟨some 82, .mov (.s 6), none⟩, ⟨some 83, .bin .lss (.s 82) (.c (.int .i64 8)), none⟩]
@[reducible] def eiderdownref_ImageFault.r21 : List MOp := [⟨some 84, .mov (.s 6), none⟩, ⟨some 85, .bin .add (.s 84) (.c (.int .i64 1)), none⟩, ⟨some 6, .mov (.s 85), none⟩]
@[reducible] def eiderdownref_ImageFault.r22 : List MOp := [⟨some 86, .mov (.s 0), none⟩, ⟨some 87, .mov (.s 6), none⟩, ⟨some 88, .nilck (.s 86), none⟩, ⟨some 89, .fld tImage 0 tInodes (.s 88), none⟩, ⟨some 90, .idx 8 tInode (.s 89) (.s 87), none⟩, ⟨some 91, .load false none tInode (.s 90), none⟩, ⟨some 7, .alloc false tInode, none⟩, ⟨none, .store tInode [] (.s 7) (.s 91), none⟩]
@[reducible] def eiderdownref_ImageFault.r23 : List MOp := [⟨some 92, .fld tInode 0 tB (.s 7), none⟩, ⟨some 93, .load false none tB (.s 92), none⟩, ⟨some 94, .un .not (.s 93), none⟩]
@[reducible] def eiderdownref_ImageFault.r24 : List MOp := [⟨some 95, .load false none tInode (.s 7), none⟩, ⟨some 96, .call true [] 13 [], none⟩, ⟨some 97, .eq true tInode (.s 95) (.s 96), none⟩]
@[reducible] def eiderdownref_ImageFault.r25 : List MOp := [⟨some 2, .mov (.c (.int .i64 12)), none⟩]
@[reducible] def eiderdownref_ImageFault.r26 : List MOp := [⟨some 98, .fld tInode 1 tI (.s 7), none⟩, ⟨some 99, .load false none tI (.s 98), none⟩, ⟨some 100, .bin .lss (.s 99) (.c (.int .i64 1)), none⟩, ⟨some 101, .mov (.s 100), none⟩, ⟨some 102, .fld tInode 2 tI (.s 7), some (101, false)⟩, ⟨some 103, .load false none tI (.s 102), some (101, false)⟩, ⟨some 104, .mov (.s 0), some (101, false)⟩, ⟨some 105, .mov (.s 6), some (101, false)⟩, ⟨some 106, .call true [] 16 [(.s 104), (.s 105)], some (101, false)⟩, ⟨some 107, .bin .lss (.s 103) (.s 106), some (101, false)⟩, ⟨some 108, .pick (.s 101) (.c (.bool true)) (.s 107), none⟩]
@[reducible] def eiderdownref_ImageFault.r27 : List MOp := [⟨some 2, .mov (.c (.int .i64 9)), none⟩]
@[reducible] def eiderdownref_ImageFault.r28 : List MOp := [⟨some 8, .mov (.c (.int .i64 0)), none⟩]
@[reducible] def eiderdownref_ImageFault.r29 : List MOp := [⟨some 109, .mov (.s 8), none⟩, ⟨some 110, .bin .lss (.s 109) (.c (.int .i64 2)), none⟩]
@[reducible] def eiderdownref_ImageFault.r30 : List MOp := [⟨some 111, .mov (.s 8), none⟩, ⟨some 112, .bin .add (.s 111) (.c (.int .i64 1)), none⟩, ⟨some 8, .mov (.s 112), none⟩]
@[reducible] def eiderdownref_ImageFault.r31 : List MOp := [⟨some 113, .mov (.s 8), none⟩, ⟨some 114, .fld tInode 3 tParts (.s 7), none⟩, ⟨some 115, .idx 2 tI (.s 114) (.s 113), none⟩, ⟨some 116, .load false none tI (.s 115), none⟩, ⟨some 9, .mov (.s 116), none⟩]
@[reducible] def eiderdownref_ImageFault.r32 : List MOp := [⟨some 117, .mov (.s 9), none⟩, ⟨some 118, .bin .neq (.s 117) (.c (.int .i64 (-1))), none⟩, ⟨some 119, .mov (.s 118), none⟩, ⟨some 120, .mov (.s 9), some (119, true)⟩, ⟨some 121, .bin .lss (.s 120) (.c (.int .i64 0)), some (119, true)⟩, ⟨some 122, .mov (.s 121), some (119, true)⟩, ⟨some 123, .mov (.s 9), some (122, false)⟩, ⟨some 124, .bin .geq (.s 123) (.c (.int .i64 9)), some (122, false)⟩, ⟨some 125, .pick (.s 122) (.c (.bool true)) (.s 124), some (119, true)⟩, ⟨some 126, .pick (.s 119) (.s 125) (.c (.bool false)), none⟩]
@[reducible] def eiderdownref_ImageFault.r33 : List MOp := [⟨some 2, .mov (.c (.int .i64 1)), none⟩]
@[reducible] def eiderdownref_ImageFault.r34 : List MOp := [⟨some 127, .mov (.s 9), none⟩, ⟨some 128, .bin .neq (.s 127) (.c (.int .i64 (-1))), none⟩, ⟨some 129, .mov (.s 128), none⟩, ⟨some 130, .mov (.s 0), some (129, true)⟩, ⟨some 131, .mov (.s 9), some (129, true)⟩, ⟨some 132, .nilck (.s 130), some (129, true)⟩, ⟨some 133, .fld tImage 2 tDatas (.s 132), some (129, true)⟩, ⟨some 134, .idx 9 tData (.s 133) (.s 131), some (129, true)⟩, ⟨some 135, .fld tData 0 tI (.s 134), some (129, true)⟩, ⟨some 136, .load false none tI (.s 135), some (129, true)⟩, ⟨some 137, .fld tInode 1 tI (.s 7), some (129, true)⟩, ⟨some 138, .load false none tI (.s 137), some (129, true)⟩, ⟨some 139, .bin .neq (.s 136) (.s 138), some (129, true)⟩, ⟨some 140, .pick (.s 129) (.s 139) (.c (.bool false)), none⟩]
@[reducible] def eiderdownref_ImageFault.r35 : List MOp := [⟨some 2, .mov (.c (.int .i64 10)), none⟩]
@[reducible] def eiderdownref_ImageFault.r36 : List MOp := [⟨some 10, .mov (.c (.int .i64 0)), none⟩]
@[reducible] def eiderdownref_ImageFault.r37 : List MOp := [⟨some 141, .mov (.s 10), none⟩, ⟨some 142, .bin .lss (.s 141) (.c (.int .i64 8)), none⟩]
@[reducible] def eiderdownref_ImageFault.r38 : List MOp := [⟨some 143, .mov (.s 10), none⟩, ⟨some 144, .bin .add (.s 143) (.c (.int .i64 1)), none⟩, ⟨some 10, .mov (.s 144), none⟩]
@[reducible] def eiderdownref_ImageFault.r39 : List MOp := [⟨some 11, .mov (.c (.int .i64 0)), none⟩]
@[reducible] def eiderdownref_ImageFault.r40 : List MOp := [⟨some 145, .mov (.s 11), none⟩, ⟨some 146, .bin .lss (.s 145) (.c (.int .i64 8)), none⟩]
@[reducible] def eiderdownref_ImageFault.r41 : List MOp := [⟨some 147, .mov (.s 11), none⟩, ⟨some 148, .bin .add (.s 147) (.c (.int .i64 1)), none⟩, ⟨some 11, .mov (.s 148), none⟩]
@[reducible] def eiderdownref_ImageFault.r42 : List MOp := [⟨some 149, .mov (.s 0), none⟩, ⟨some 150, .mov (.s 10), none⟩, ⟨some 151, .nilck (.s 149), none⟩, ⟨some 152, .fld tImage 0 tInodes (.s 151), none⟩, ⟨some 153, .idx 8 tInode (.s 152) (.s 150), none⟩, ⟨some 154, .fld tInode 0 tB (.s 153), none⟩, ⟨some 155, .load false none tB (.s 154), none⟩, ⟨some 156, .un .not (.s 155), none⟩, ⟨some 157, .mov (.s 156), none⟩, ⟨some 158, .mov (.s 0), some (157, false)⟩, ⟨some 159, .mov (.s 11), some (157, false)⟩, ⟨some 160, .nilck (.s 158), some (157, false)⟩, ⟨some 161, .fld tImage 0 tInodes (.s 160), some (157, false)⟩, ⟨some 162, .idx 8 tInode (.s 161) (.s 159), some (157, false)⟩, ⟨some 163, .fld tInode 0 tB (.s 162), some (157, false)⟩, ⟨some 164, .load false none tB (.s 163), some (157, false)⟩, ⟨some 165, .un .not (.s 164), some (157, false)⟩, ⟨some 166, .pick (.s 157) (.c (.bool true)) (.s 165), none⟩]
@[reducible] def eiderdownref_ImageFault.r43 : List MOp := [⟨some 167, .mov (.s 10), none⟩, ⟨some 168, .mov (.s 11), none⟩, ⟨some 169, .bin .neq (.s 167) (.s 168), none⟩, ⟨some 170, .mov (.s 169), none⟩, ⟨some 171, .mov (.s 0), some (170, true)⟩, ⟨some 172, .mov (.s 10), some (170, true)⟩, ⟨some 173, .nilck (.s 171), some (170, true)⟩, ⟨some 174, .fld tImage 0 tInodes (.s 173), some (170, true)⟩, ⟨some 175, .idx 8 tInode (.s 174) (.s 172), some (170, true)⟩, ⟨some 176, .fld tInode 1 tI (.s 175), some (170, true)⟩, ⟨some 177, .load false none tI (.s 176), some (170, true)⟩, ⟨some 178, .mov (.s 0), some (170, true)⟩, ⟨some 179, .mov (.s 11), some (170, true)⟩, ⟨some 180, .nilck (.s 178), some (170, true)⟩, ⟨some 181, .fld tImage 0 tInodes (.s 180), some (170, true)⟩, ⟨some 182, .idx 8 tInode (.s 181) (.s 179), some (170, true)⟩, ⟨some 183, .fld tInode 1 tI (.s 182), some (170, true)⟩, ⟨some 184, .load false none tI (.s 183), some (170, true)⟩, ⟨some 185, .bin .eql (.s 177) (.s 184), some (170, true)⟩, ⟨some 186, .pick (.s 170) (.s 185) (.c (.bool false)), none⟩]
@[reducible] def eiderdownref_ImageFault.r44 : List MOp := [⟨some 2, .mov (.c (.int .i64 11)), none⟩]
@[reducible] def eiderdownref_ImageFault.r45 : List MOp := [⟨some 12, .mov (.c (.int .i64 0)), none⟩]
@[reducible] def eiderdownref_ImageFault.r46 : List MOp := [⟨some 187, .mov (.s 12), none⟩, ⟨some 188, .bin .lss (.s 187) (.c (.int .i64 2)), none⟩]
@[reducible] def eiderdownref_ImageFault.r47 : List MOp := [⟨some 189, .mov (.s 12), none⟩, ⟨some 190, .bin .add (.s 189) (.c (.int .i64 1)), none⟩, ⟨some 12, .mov (.s 190), none⟩]
@[reducible] def eiderdownref_ImageFault.r48 : List MOp := [⟨some 13, .mov (.c (.int .i64 0)), none⟩]
@[reducible] def eiderdownref_ImageFault.r49 : List MOp := [⟨some 191, .mov (.s 13), none⟩, ⟨some 192, .bin .lss (.s 191) (.c (.int .i64 2)), none⟩]
@[reducible] def eiderdownref_ImageFault.r50 : List MOp := [⟨some 193, .mov (.s 13), none⟩, ⟨some 194, .bin .add (.s 193) (.c (.int .i64 1)), none⟩, ⟨some 13, .mov (.s 194), none⟩]
@[reducible] def eiderdownref_ImageFault.r51 : List MOp := [⟨some 195, .mov (.s 10), none⟩, ⟨some 196, .mov (.s 11), none⟩, ⟨some 197, .bin .neq (.s 195) (.s 196), none⟩, ⟨some 198, .mov (.s 197), none⟩, ⟨some 199, .mov (.s 12), some (198, false)⟩, ⟨some 200, .mov (.s 13), some (198, false)⟩, ⟨some 201, .bin .neq (.s 199) (.s 200), some (198, false)⟩, ⟨some 202, .pick (.s 198) (.c (.bool true)) (.s 201), none⟩, ⟨some 203, .mov (.s 202), none⟩, ⟨some 204, .mov (.s 0), some (203, true)⟩, ⟨some 205, .mov (.s 10), some (203, true)⟩, ⟨some 206, .mov (.s 12), some (203, true)⟩, ⟨some 207, .nilck (.s 204), some (203, true)⟩, ⟨some 208, .fld tImage 0 tInodes (.s 207), some (203, true)⟩, ⟨some 209, .idx 8 tInode (.s 208) (.s 205), some (203, true)⟩, ⟨some 210, .fld tInode 3 tParts (.s 209), some (203, true)⟩, ⟨some 211, .idx 2 tI (.s 210) (.s 206), some (203, true)⟩, ⟨some 212, .load false none tI (.s 211), some (203, true)⟩, ⟨some 213, .bin .geq (.s 212) (.c (.int .i64 0)), some (203, true)⟩, ⟨some 214, .pick (.s 203) (.s 213) (.c (.bool false)), none⟩, ⟨some 215, .mov (.s 214), none⟩, ⟨some 216, .mov (.s 0), some (215, true)⟩, ⟨some 217, .mov (.s 10), some (215, true)⟩, ⟨some 218, .mov (.s 12), some (215, true)⟩, ⟨some 219, .nilck (.s 216), some (215, true)⟩, ⟨some 220, .fld tImage 0 tInodes (.s 219), some (215, true)⟩, ⟨some 221, .idx 8 tInode (.s 220) (.s 217), some (215, true)⟩, ⟨some 222, .fld tInode 3 tParts (.s 221), some (215, true)⟩, ⟨some 223, .idx 2 tI (.s 222) (.s 218), some (215, true)⟩, ⟨some 224, .load false none tI (.s 223), some (215, true)⟩, ⟨some 225, .mov (.s 0), some (215, true)⟩, ⟨some 226, .mov (.s 11), some (215, true)⟩, ⟨some 227, .mov (.s 13), some (215, true)⟩, ⟨some 228, .nilck (.s 225), some (215, true)⟩, ⟨some 229, .fld tImage 0 tInodes (.s 228), some (215, true)⟩, ⟨some 230, .idx 8 tInode (.s 229) (.s 226), some (215, true)⟩, ⟨some 231, .fld tInode 3 tParts (.s 230), some (215, true)⟩, ⟨some 232, .idx 2 tI (.s 231) (.s 227), some (215, true)⟩, ⟨some 233, .load false none tI (.s 232), some (215, true)⟩, ⟨some 234, .bin .eql (.s 224) (.s 233), some (215, true)⟩, ⟨some 235, .pick (.s 215) (.s 234) (.c (.bool false)), none⟩]
@[reducible] def eiderdownref_ImageFault.r52 : List MOp := [⟨some 2, .mov (.c (.int .i64 11)), none⟩]
@[reducible] def eiderdownref_ImageFault.r53 : List MOp := [⟨some 2, .mov (.c (.int .i64 0)), none⟩]
@[reducible] def eiderdownref_ImageFault.body : MC := (.seq (.reg false eiderdownref_ImageFault.r0 [2]) (.seq (.seq (.reg false eiderdownref_ImageFault.r1 []) (.block 0 (.loop [0, 3] [] (.seq (.seq (.reg false eiderdownref_ImageFault.r2 [14]) (.cond (.s 15) .skip (.exit 0))) (.seq (.block 1 (.seq (.reg false eiderdownref_ImageFault.r4 []) (.block 2 (.loop [0, 3, 4] [] (.seq (.seq (.reg false eiderdownref_ImageFault.r5 [18]) (.cond (.s 19) .skip (.exit 2))) (.seq (.block 3 (.seq (.reg false eiderdownref_ImageFault.r7 [22, 23, 24, 25, 26, 27, 28, 29]) (.seq (.seq (.reg false eiderdownref_ImageFault.r8 [30, 31]) (.cond (.s 32) (.seq (.seq (.reg false eiderdownref_ImageFault.r9 [5, 33, 34, 35, 36, 37, 38, 39]) (.cond (.s 40) (.seq (.reg false eiderdownref_ImageFault.r10 []) .ret) .skip)) (.exit 3)) .skip)) (.seq (.seq (.reg false eiderdownref_ImageFault.r11 [41, 42, 43]) (.cond (.s 44) (.seq (.reg false eiderdownref_ImageFault.r12 []) .ret) .skip)) (.seq (.seq (.reg false eiderdownref_ImageFault.r13 [45, 46, 47, 48, 49, 50]) (.cond (.s 51) (.seq (.reg false eiderdownref_ImageFault.r14 []) .ret) .skip)) (.seq (.seq (.reg false eiderdownref_ImageFault.r15 [52, 53, 54, 55, 56, 57, 58]) (.cond (.s 59) (.seq (.reg false eiderdownref_ImageFault.r16 []) .ret) .skip)) (.seq (.reg true eiderdownref_ImageFault.r17 [5, 60, 61, 62, 63, 64, 65, 66, 67, 68, 69, 70, 71, 72, 73, 74, 75, 76, 77, 78, 79, 80]) (.cond (.s 81) (.seq (.reg false eiderdownref_ImageFault.r18 []) .ret) .skip)))))))) (.reg false eiderdownref_ImageFault.r6 [20, 21]))))))) (.reg false eiderdownref_ImageFault.r3 [16, 17])))))) (.seq (.seq (.reg false eiderdownref_ImageFault.r19 []) (.block 4 (.loop [0, 6] [] (.seq (.seq (.reg false eiderdownref_ImageFault.r20 [82]) (.cond (.s 83) .skip (.exit 4))) (.seq (.block 5 (.seq (.reg false eiderdownref_ImageFault.r22 [86, 87, 88, 89, 90, 91]) (.seq (.seq (.reg false eiderdownref_ImageFault.r23 [92, 93]) (.cond (.s 94) (.seq (.seq (.reg true eiderdownref_ImageFault.r24 [7, 95, 96]) (.cond (.s 97) (.seq (.reg false eiderdownref_ImageFault.r25 []) .ret) .skip)) (.exit 5)) .skip)) (.seq (.seq (.reg true eiderdownref_ImageFault.r26 [98, 99, 100, 101, 102, 103, 104, 105, 106, 107]) (.cond (.s 108) (.seq (.reg false eiderdownref_ImageFault.r27 []) .ret) .skip)) (.seq (.reg false eiderdownref_ImageFault.r28 []) (.block 6 (.loop [0, 6, 7, 8] [7] (.seq (.seq (.reg false eiderdownref_ImageFault.r29 [109]) (.cond (.s 110) .skip (.exit 6))) (.seq (.block 7 (.seq (.reg false eiderdownref_ImageFault.r31 [113, 114, 115, 116]) (.seq (.seq (.reg false eiderdownref_ImageFault.r32 [117, 118, 119, 120, 121, 122, 123, 124, 125]) (.cond (.s 126) (.seq (.reg false eiderdownref_ImageFault.r33 []) .ret) .skip)) (.seq (.reg true eiderdownref_ImageFault.r34 [9, 127, 128, 129, 130, 131, 132, 133, 134, 135, 136, 137, 138, 139]) (.cond (.s 140) (.seq (.reg false eiderdownref_ImageFault.r35 []) .ret) .skip))))) (.reg false eiderdownref_ImageFault.r30 [111, 112])))))))))) (.reg false eiderdownref_ImageFault.r21 [84, 85])))))) (.seq (.seq (.reg false eiderdownref_ImageFault.r36 []) (.block 8 (.loop [0, 10] [] (.seq (.seq (.reg false eiderdownref_ImageFault.r37 [141]) (.cond (.s 142) .skip (.exit 8))) (.seq (.block 9 (.seq (.reg false eiderdownref_ImageFault.r39 []) (.block 10 (.loop [0, 10, 11] [] (.seq (.seq (.reg false eiderdownref_ImageFault.r40 [145]) (.cond (.s 146) .skip (.exit 10))) (.seq (.block 11 (.seq (.seq (.reg false eiderdownref_ImageFault.r42 [149, 150, 151, 152, 153, 154, 155, 156, 157, 158, 159, 160, 161, 162, 163, 164, 165]) (.cond (.s 166) (.exit 11) .skip)) (.seq (.seq (.reg true eiderdownref_ImageFault.r43 [167, 168, 169, 170, 171, 172, 173, 174, 175, 176, 177, 178, 179, 180, 181, 182, 183, 184, 185]) (.cond (.s 186) (.seq (.reg false eiderdownref_ImageFault.r44 []) .ret) .skip)) (.seq (.reg false eiderdownref_ImageFault.r45 []) (.block 12 (.loop [0, 10, 11, 12] [] (.seq (.seq (.reg false eiderdownref_ImageFault.r46 [187]) (.cond (.s 188) .skip (.exit 12))) (.seq (.block 13 (.seq (.reg false eiderdownref_ImageFault.r48 []) (.block 14 (.loop [0, 10, 11, 12, 13] [] (.seq (.seq (.reg false eiderdownref_ImageFault.r49 [191]) (.cond (.s 192) .skip (.exit 14))) (.seq (.block 15 (.seq (.reg true eiderdownref_ImageFault.r51 [195, 196, 197, 198, 199, 200, 201, 202, 203, 204, 205, 206, 207, 208, 209, 210, 211, 212, 213, 214, 215, 216, 217, 218, 219, 220, 221, 222, 223, 224, 225, 226, 227, 228, 229, 230, 231, 232, 233, 234]) (.cond (.s 235) (.seq (.reg false eiderdownref_ImageFault.r52 []) .ret) .skip))) (.reg false eiderdownref_ImageFault.r50 [193, 194]))))))) (.reg false eiderdownref_ImageFault.r47 [189, 190]))))))))) (.reg false eiderdownref_ImageFault.r41 [147, 148]))))))) (.reg false eiderdownref_ImageFault.r38 [143, 144])))))) (.seq (.reg false eiderdownref_ImageFault.r53 []) .ret)))))
@[reducible] def eiderdownref_ImageFault : MFun := { params := 1, nfree := 0, res := [.tmp 2], body := eiderdownref_ImageFault.body }
@[reducible] def image_Exact.r0 : List MOp := [⟨some 2, .mov (.c (.bool false)), none⟩]
@[reducible] def image_Exact.r1 : List MOp := [⟨some 6, .mov (.s 0), none⟩, ⟨some 7, .nilck (.s 6), none⟩, ⟨some 8, .fld tImage 0 tInodes (.s 7), none⟩, ⟨some 9, .load false none tInodes (.s 8), none⟩, ⟨some 10, .mov (.c (.int .i64 0)), none⟩]
@[reducible] def image_Exact.r2 : List MOp := [⟨some 11, .bin .lss (.s 10) (.c (.int .i64 8)), none⟩]
@[reducible] def image_Exact.r3 : List MOp := [⟨some 12, .mov (.s 10), none⟩, ⟨some 13, .aidx 8 tInode (.s 9) (.s 10), none⟩, ⟨some 4, .alloc false tInode, none⟩, ⟨some 3, .mov (.s 12), none⟩, ⟨none, .store tInode [] (.s 4) (.s 13), none⟩]
@[reducible] def image_Exact.r4 : List MOp := [⟨some 14, .mov (.s 0), none⟩, ⟨some 15, .mov (.s 3), none⟩, ⟨some 16, .call false [] 12 [(.s 14), (.s 15)], none⟩, ⟨some 5, .mov (.s 16), none⟩]
@[reducible] def image_Exact.r5 : List MOp := [⟨some 17, .fld tInode 0 tB (.s 4), none⟩, ⟨some 18, .load false none tB (.s 17), none⟩, ⟨some 19, .mov (.s 18), none⟩, ⟨some 20, .mov (.s 5), some (19, true)⟩, ⟨some 21, .bin .eql (.s 20) (.c (.int .i64 0)), some (19, true)⟩, ⟨some 22, .mov (.s 21), some (19, true)⟩, ⟨some 23, .fld tInode 2 tI (.s 4), some (22, false)⟩, ⟨some 24, .load false none tI (.s 23), some (22, false)⟩, ⟨some 25, .mov (.s 5), some (22, false)⟩, ⟨some 26, .bin .neq (.s 24) (.s 25), some (22, false)⟩, ⟨some 27, .pick (.s 22) (.c (.bool true)) (.s 26), some (19, true)⟩, ⟨some 28, .pick (.s 19) (.s 27) (.c (.bool false)), none⟩]
@[reducible] def image_Exact.r6 : List MOp := [⟨some 2, .mov (.c (.bool false)), none⟩]
@[reducible] def image_Exact.r7 : List MOp := [⟨some 29, .bin .add (.s 10) (.c (.int .i64 1)), none⟩, ⟨some 10, .mov (.s 29), none⟩]
@[reducible] def image_Exact.r8 : List MOp := [⟨some 30, .mov (.s 0), none⟩, ⟨some 31, .call false [] 21 [(.s 30)], none⟩, ⟨some 32, .bin .eql (.s 31) (.c (.int .i64 0)), none⟩, ⟨some 2, .mov (.s 32), none⟩]
@[reducible] def image_Exact.body : MC := (.seq (.reg false image_Exact.r0 [2]) (.seq (.seq (.reg false image_Exact.r1 [6, 7, 8]) (.block 0 (.loop [0, 9, 10] [] (.seq (.reg false image_Exact.r2 []) (.seq (.cond (.s 11) .skip (.exit 0)) (.seq (.block 1 (.seq (.reg false image_Exact.r3 [12, 13]) (.seq (.reg false image_Exact.r4 [3, 14, 15, 16]) (.seq (.reg false image_Exact.r5 [4, 5, 17, 18, 19, 20, 21, 22, 23, 24, 25, 26, 27]) (.cond (.s 28) (.seq (.reg false image_Exact.r6 []) .ret) .skip))))) (.reg false image_Exact.r7 [29]))))))) (.seq (.reg false image_Exact.r8 [0, 30, 31, 32]) .ret)))
@[reducible] def image_Exact : MFun := { params := 1, nfree := 0, res := [.tmp 2], body := image_Exact.body }
@[reducible] def mend_Mend.r0 : List MOp := [⟨some 1, .box false tImage (.s 0), none⟩, ⟨some 2, .alloc false tImage, none⟩, ⟨some 3, .alloc false tLost, none⟩, ⟨some 4, .mov (.c (.int .i64 0)), none⟩]
@[reducible] def mend_Mend.r1 : List MOp := [⟨some 11, .call false [] 21 [(.s 1)], none⟩, ⟨some 5, .mov (.s 11), none⟩]
@[reducible] def mend_Mend.r2 : List MOp := [⟨some 12, .mov (.s 5), none⟩, ⟨some 13, .bin .neq (.s 12) (.c (.int .i64 0)), none⟩]
@[reducible] def mend_Mend.r3 : List MOp := [⟨some 14, .build tImage [], none⟩, ⟨some 15, .build tLost [], none⟩, ⟨some 16, .mov (.s 5), none⟩, ⟨none, .store tImage [] (.s 2) (.s 14), none⟩, ⟨none, .store tLost [] (.s 3) (.s 15), none⟩, ⟨some 4, .mov (.s 16), none⟩]
@[reducible] def mend_Mend.r4 : List MOp := [⟨some 6, .alloc false tLost, none⟩]
@[reducible] def mend_Mend.r5 : List MOp := [⟨some 17, .mov (.c (.int .i64 0)), none⟩]
@[reducible] def mend_Mend.r6 : List MOp := [⟨some 18, .bin .lss (.s 17) (.c (.int .i64 8)), none⟩]
@[reducible] def mend_Mend.r7 : List MOp := [⟨some 19, .mov (.s 17), none⟩, ⟨some 7, .mov (.s 19), none⟩]
@[reducible] def mend_Mend.r8 : List MOp := [⟨some 20, .mov (.s 7), none⟩, ⟨some 21, .fld tImage 0 tInodes (.s 1), none⟩, ⟨some 22, .idx 8 tInode (.s 21) (.s 20), none⟩, ⟨some 8, .mov (.s 22), none⟩]
@[reducible] def mend_Mend.r9 : List MOp := [⟨some 23, .mov (.s 7), none⟩, ⟨some 24, .call false [] 12 [(.s 1), (.s 23)], none⟩, ⟨some 9, .mov (.s 24), none⟩]
@[reducible] def mend_Mend.r10 : List MOp := [⟨some 26, .mov (.s 8), none⟩, ⟨some 27, .nilck (.s 26), none⟩, ⟨some 28, .fld tInode 0 tB (.s 27), none⟩, ⟨some 29, .load false none tB (.s 28), none⟩, ⟨some 30, .un .not (.s 29), none⟩, ⟨some 25, .mov (.s 30), none⟩]
@[reducible] def mend_Mend.r11 : List MOp := [⟨some 32, .mov (.s 9), none⟩, ⟨some 33, .bin .eql (.s 32) (.c (.int .i64 0)), none⟩, ⟨some 31, .mov (.s 33), none⟩]
@[reducible] def mend_Mend.r12 : List MOp := [⟨some 34, .mov (.s 8), none⟩, ⟨some 35, .call false [] 33 [], none⟩, ⟨some 36, .nilck (.s 34), none⟩, ⟨none, .store tInode [] (.s 36) (.s 35), none⟩]
@[reducible] def mend_Mend.r13 : List MOp := [⟨some 37, .fld tLost 0 tI (.s 6), none⟩, ⟨some 38, .load false none tI (.s 37), none⟩, ⟨some 39, .bin .add (.s 38) (.c (.int .i64 1)), none⟩, ⟨some 40, .fld tLost 0 tI (.s 6), none⟩, ⟨none, .store tI [] (.s 40) (.s 39), none⟩]
@[reducible] def mend_Mend.r14 : List MOp := [⟨some 42, .mov (.s 8), none⟩, ⟨some 43, .nilck (.s 42), none⟩, ⟨some 44, .fld tInode 2 tI (.s 43), none⟩, ⟨some 45, .load false none tI (.s 44), none⟩, ⟨some 46, .mov (.s 9), none⟩, ⟨some 47, .bin .neq (.s 45) (.s 46), none⟩, ⟨some 41, .mov (.s 47), none⟩]
@[reducible] def mend_Mend.r15 : List MOp := [⟨some 48, .mov (.s 8), none⟩, ⟨some 49, .mov (.s 9), none⟩, ⟨some 50, .nilck (.s 48), none⟩, ⟨some 51, .fld tInode 2 tI (.s 50), none⟩, ⟨none, .store tI [] (.s 51) (.s 49), none⟩]
@[reducible] def mend_Mend.r16 : List MOp := [⟨some 52, .fld tLost 1 tI (.s 6), none⟩, ⟨some 53, .load false none tI (.s 52), none⟩, ⟨some 54, .bin .add (.s 53) (.c (.int .i64 1)), none⟩, ⟨some 55, .fld tLost 1 tI (.s 6), none⟩, ⟨none, .store tI [] (.s 55) (.s 54), none⟩]
@[reducible] def mend_Mend.r17 : List MOp := [⟨some 56, .bin .add (.s 17) (.c (.int .i64 1)), none⟩, ⟨some 17, .mov (.s 56), none⟩]
@[reducible] def mend_Mend.r18 : List MOp := [⟨some 57, .mov (.c (.int .i64 0)), none⟩]
@[reducible] def mend_Mend.r19 : List MOp := [⟨some 58, .bin .lss (.s 57) (.c (.int .i64 9)), none⟩]
@[reducible] def mend_Mend.r20 : List MOp := [⟨some 59, .mov (.s 57), none⟩, ⟨some 10, .mov (.s 59), none⟩]
@[reducible] def mend_Mend.r21 : List MOp := [⟨some 60, .mov (.s 10), none⟩, ⟨some 61, .fld tImage 2 tDatas (.s 1), none⟩, ⟨some 62, .idx 9 tData (.s 61) (.s 60), none⟩, ⟨some 63, .load false none tData (.s 62), none⟩, ⟨some 64, .build tData [], none⟩, ⟨some 65, .eq true tData (.s 63) (.s 64), none⟩, ⟨some 66, .mov (.s 65), none⟩, ⟨some 67, .mov (.s 10), some (66, true)⟩, ⟨some 68, .call false [] 17 [(.s 1), (.s 67)], some (66, true)⟩, ⟨some 69, .un .not (.s 68), some (66, true)⟩, ⟨some 70, .pick (.s 66) (.s 69) (.c (.bool false)), none⟩]
@[reducible] def mend_Mend.r22 : List MOp := [⟨some 71, .mov (.s 10), none⟩, ⟨some 72, .build tData [], none⟩, ⟨some 73, .fld tImage 2 tDatas (.s 1), none⟩, ⟨some 74, .idx 9 tData (.s 73) (.s 71), none⟩, ⟨none, .store tData [] (.s 74) (.s 72), none⟩]
@[reducible] def mend_Mend.r23 : List MOp := [⟨some 75, .fld tLost 2 tI (.s 6), none⟩, ⟨some 76, .load false none tI (.s 75), none⟩, ⟨some 77, .bin .add (.s 76) (.c (.int .i64 1)), none⟩, ⟨some 78, .fld tLost 2 tI (.s 6), none⟩, ⟨none, .store tI [] (.s 78) (.s 77), none⟩]
@[reducible] def mend_Mend.r24 : List MOp := [⟨some 79, .bin .add (.s 57) (.c (.int .i64 1)), none⟩, ⟨some 57, .mov (.s 79), none⟩]
@[reducible] def mend_Mend.r25 : List MOp := [⟨some 80, .load false none tImage (.s 1), none⟩, ⟨some 81, .load false (some 6) tLost (.s 6), none⟩, ⟨none, .store tImage [6] (.s 2) (.s 80), none⟩, ⟨none, .store tLost [] (.s 3) (.s 81), none⟩, ⟨some 4, .mov (.c (.int .i64 0)), none⟩]
@[reducible] def mend_Mend.body : MC := (.seq (.reg false mend_Mend.r0 [0, 4]) (.seq (.seq (.reg false mend_Mend.r1 [11]) (.seq (.reg false mend_Mend.r2 [12]) (.cond (.s 13) (.seq (.reg false mend_Mend.r3 [5, 14, 15, 16]) .ret) .skip))) (.seq (.reg false mend_Mend.r4 []) (.seq (.seq (.reg false mend_Mend.r5 []) (.block 0 (.loop [1, 2, 3, 6, 17] [1, 2, 3, 6] (.seq (.reg false mend_Mend.r6 []) (.seq (.cond (.s 18) .skip (.exit 0)) (.seq (.block 1 (.seq (.reg false mend_Mend.r7 [19]) (.seq (.reg false mend_Mend.r8 [20, 21, 22]) (.seq (.reg false mend_Mend.r9 [7, 23, 24]) (.block 2 (.seq (.reg false mend_Mend.r10 [26, 27, 28, 29, 30]) (.cond (.s 25) .skip (.seq (.reg false mend_Mend.r11 [32, 33]) (.cond (.s 31) (.seq (.reg false mend_Mend.r12 [8, 34, 35, 36]) (.reg false mend_Mend.r13 [37, 38, 39, 40])) (.seq (.reg false mend_Mend.r14 [42, 43, 44, 45, 46, 47]) (.cond (.s 41) (.seq (.reg false mend_Mend.r15 [8, 9, 48, 49, 50, 51]) (.reg false mend_Mend.r16 [52, 53, 54, 55])) .skip))))))))))) (.reg false mend_Mend.r17 [56]))))))) (.seq (.seq (.reg false mend_Mend.r18 []) (.block 3 (.loop [1, 2, 3, 6, 57] [1, 2, 3, 6] (.seq (.reg false mend_Mend.r19 []) (.seq (.cond (.s 58) .skip (.exit 3)) (.seq (.block 4 (.seq (.reg false mend_Mend.r20 [59]) (.seq (.reg false mend_Mend.r21 [60, 61, 62, 63, 64, 65, 66, 67, 68, 69]) (.cond (.s 70) (.seq (.reg false mend_Mend.r22 [10, 71, 72, 73, 74]) (.reg false mend_Mend.r23 [75, 76, 77, 78])) .skip)))) (.reg false mend_Mend.r24 [79]))))))) (.seq (.reg true mend_Mend.r25 [1, 6, 80, 81]) .ret))))))
@[reducible] def mend_Mend : MFun := { params := 1, nfree := 0, res := [.cell 2 tImage, .cell 3 tLost, .tmp 4], body := mend_Mend.body }
@[reducible] def eiderdownref_leads.r0 : List MOp := [⟨some 8, .mov (.c (.bool false)), none⟩]
@[reducible] def eiderdownref_leads.r1 : List MOp := [⟨some 9, .mov (.s 0), none⟩, ⟨some 10, .mov (.s 1), none⟩, ⟨some 11, .mov (.s 2), none⟩, ⟨some 12, .nilck (.s 9), none⟩, ⟨some 13, .fld tImage 1 tDirs (.s 12), none⟩, ⟨some 14, .idx 3 tRow (.s 13) (.s 10), none⟩, ⟨some 15, .idx 4 tEntry (.s 14) (.s 11), none⟩, ⟨some 16, .fld tEntry 0 tS (.s 15), none⟩, ⟨some 17, .load false none tS (.s 16), none⟩, ⟨some 18, .bin .neq (.s 17) (.c (.str ⟨#[]⟩)), none⟩, ⟨some 19, .mov (.s 18), none⟩, ⟨some 20, .mov (.s 0), some (19, true)⟩, ⟨some 21, .mov (.s 1), some (19, true)⟩, ⟨some 22, .mov (.s 2), some (19, true)⟩, ⟨some 23, .nilck (.s 20), some (19, true)⟩, ⟨some 24, .fld tImage 1 tDirs (.s 23), some (19, true)⟩, ⟨some 25, .idx 3 tRow (.s 24) (.s 21), some (19, true)⟩, ⟨some 26, .idx 4 tEntry (.s 25) (.s 22), some (19, true)⟩, ⟨some 27, .fld tEntry 1 tI (.s 26), some (19, true)⟩, ⟨some 28, .load false none tI (.s 27), some (19, true)⟩, ⟨some 29, .mov (.s 3), some (19, true)⟩, ⟨some 30, .bin .eql (.s 28) (.s 29), some (19, true)⟩, ⟨some 31, .pick (.s 19) (.s 30) (.c (.bool false)), none⟩, ⟨some 8, .mov (.s 31), none⟩]
@[reducible] def eiderdownref_leads.body : MC := (.seq (.reg false eiderdownref_leads.r0 [8]) (.seq (.reg false eiderdownref_leads.r1 [0, 1, 2, 3, 9, 10, 11, 12, 13, 14, 15, 16, 17, 18, 19, 20, 21, 22, 23, 24, 25, 26, 27, 28, 29, 30, 31]) .ret))
@[reducible] def eiderdownref_leads : MFun := { params := 4, nfree := 0, res := [.tmp 8], body := eiderdownref_leads.body }
@[reducible] def safe_part.r0 : List MOp := [⟨some 8, .mov (.c (.int .i64 0)), none⟩]
@[reducible] def safe_part.r1 : List MOp := [⟨some 12, .mov (.s 0), none⟩, ⟨some 13, .mov (.s 2), none⟩, ⟨some 14, .nilck (.s 12), none⟩, ⟨some 15, .fld tImage 0 tInodes (.s 14), none⟩, ⟨some 16, .idx 8 tInode (.s 15) (.s 13), none⟩, ⟨some 17, .load false none tInode (.s 16), none⟩, ⟨some 18, .mov (.s 1), none⟩, ⟨some 19, .mov (.s 2), none⟩, ⟨some 20, .nilck (.s 18), none⟩, ⟨some 21, .fld tImage 0 tInodes (.s 20), none⟩, ⟨some 22, .idx 8 tInode (.s 21) (.s 19), none⟩, ⟨some 23, .load false (some 1) tInode (.s 22), none⟩, ⟨some 9, .alloc false tInode, none⟩, ⟨some 10, .alloc false tInode, none⟩, ⟨none, .store tInode [1] (.s 9) (.s 17), none⟩, ⟨none, .store tInode [] (.s 10) (.s 23), none⟩]
@[reducible] def safe_part.r2 : List MOp := [⟨some 24, .mov (.s 3), none⟩, ⟨some 25, .fld tInode 3 tParts (.s 9), none⟩, ⟨some 26, .idx 2 tI (.s 25) (.s 24), none⟩, ⟨some 27, .load false none tI (.s 26), none⟩, ⟨some 11, .mov (.s 27), none⟩]
@[reducible] def safe_part.r3 : List MOp := [⟨some 28, .mov (.s 11), none⟩, ⟨some 29, .bin .lss (.s 28) (.c (.int .i64 0)), none⟩, ⟨some 30, .mov (.s 29), none⟩, ⟨some 31, .mov (.s 11), some (30, false)⟩, ⟨some 32, .bin .geq (.s 31) (.c (.int .i64 9)), some (30, false)⟩, ⟨some 33, .pick (.s 30) (.c (.bool true)) (.s 32), none⟩]
@[reducible] def safe_part.r4 : List MOp := [⟨some 8, .mov (.c (.int .i64 (-1))), none⟩]
@[reducible] def safe_part.r5 : List MOp := [⟨some 34, .mov (.s 1), none⟩, ⟨some 35, .mov (.s 11), none⟩, ⟨some 36, .nilck (.s 34), none⟩, ⟨some 37, .fld tImage 2 tDatas (.s 36), none⟩, ⟨some 38, .idx 9 tData (.s 37) (.s 35), none⟩, ⟨some 39, .fld tData 0 tI (.s 38), none⟩, ⟨some 40, .load false none tI (.s 39), none⟩, ⟨some 41, .fld tInode 1 tI (.s 9), none⟩, ⟨some 42, .load false none tI (.s 41), none⟩, ⟨some 43, .bin .eql (.s 40) (.s 42), none⟩]
@[reducible] def safe_part.r6 : List MOp := [⟨some 44, .mov (.s 11), none⟩, ⟨some 8, .mov (.s 44), none⟩]
@[reducible] def safe_part.r7 : List MOp := [⟨some 45, .fld tInode 0 tB (.s 10), none⟩, ⟨some 46, .load false none tB (.s 45), none⟩, ⟨some 47, .mov (.s 46), none⟩, ⟨some 48, .fld tInode 1 tI (.s 10), some (47, true)⟩, ⟨some 49, .load false none tI (.s 48), some (47, true)⟩, ⟨some 50, .fld tInode 1 tI (.s 9), some (47, true)⟩, ⟨some 51, .load false none tI (.s 50), some (47, true)⟩, ⟨some 52, .bin .eql (.s 49) (.s 51), some (47, true)⟩, ⟨some 53, .pick (.s 47) (.s 52) (.c (.bool false)), none⟩]
@[reducible] def safe_part.r8 : List MOp := [⟨some 54, .mov (.s 3), none⟩, ⟨some 55, .fld tInode 3 tParts (.s 10), none⟩, ⟨some 56, .idx 2 tI (.s 55) (.s 54), none⟩, ⟨some 57, .load false none tI (.s 56), none⟩, ⟨some 8, .mov (.s 57), none⟩]
@[reducible] def safe_part.r9 : List MOp := [⟨some 8, .mov (.c (.int .i64 (-1))), none⟩]
@[reducible] def safe_part.body : MC := (.seq (.reg false safe_part.r0 [8]) (.seq (.reg true safe_part.r1 [0, 2, 12, 13, 14, 15, 16, 17, 18, 19, 20, 21, 22, 23]) (.seq (.reg false safe_part.r2 [24, 25, 26, 27]) (.seq (.seq (.reg false safe_part.r3 [28, 29, 30, 31, 32]) (.cond (.s 33) (.seq (.reg false safe_part.r4 []) .ret) .skip)) (.seq (.seq (.reg true safe_part.r5 [1, 34, 35, 36, 37, 38, 39, 40, 41, 42]) (.cond (.s 43) (.seq (.reg false safe_part.r6 [11, 44]) .ret) .skip)) (.seq (.seq (.reg false safe_part.r7 [9, 45, 46, 47, 48, 49, 50, 51, 52]) (.cond (.s 53) (.seq (.reg false safe_part.r8 [3, 10, 54, 55, 56, 57]) .ret) .skip)) (.seq (.reg false safe_part.r9 []) .ret)))))))
@[reducible] def safe_part : MFun := { params := 4, nfree := 0, res := [.tmp 8], body := safe_part.body }
@[reducible] def image_Free.r0 : List MOp := [⟨some 0, .alloc false tInode, none⟩]
@[reducible] def image_Free.r1 : List MOp := [⟨some 3, .build tInode [], none⟩, ⟨some 1, .alloc false tInode, none⟩, ⟨none, .store tInode [] (.s 1) (.s 3), none⟩]
@[reducible] def image_Free.r2 : List MOp := [⟨some 4, .mov (.c (.int .i64 0)), none⟩]
@[reducible] def image_Free.r3 : List MOp := [⟨some 5, .bin .lss (.s 4) (.c (.int .i64 2)), none⟩]
@[reducible] def image_Free.r4 : List MOp := [⟨some 6, .mov (.s 4), none⟩, ⟨some 2, .mov (.s 6), none⟩]
@[reducible] def image_Free.r5 : List MOp := [⟨some 7, .mov (.s 2), none⟩, ⟨some 8, .fld tInode 3 tParts (.s 1), none⟩, ⟨some 9, .idx 2 tI (.s 8) (.s 7), none⟩, ⟨none, .store tI [] (.s 9) (.c (.int .i64 (-1))), none⟩]
@[reducible] def image_Free.r6 : List MOp := [⟨some 10, .bin .add (.s 4) (.c (.int .i64 1)), none⟩, ⟨some 4, .mov (.s 10), none⟩]
@[reducible] def image_Free.r7 : List MOp := [⟨some 11, .load false none tInode (.s 1), none⟩, ⟨none, .store tInode [] (.s 0) (.s 11), none⟩]
@[reducible] def image_Free.body : MC := (.seq (.reg false image_Free.r0 []) (.seq (.reg false image_Free.r1 [3]) (.seq (.seq (.reg false image_Free.r2 []) (.block 0 (.loop [0, 1, 4] [0, 1] (.seq (.reg false image_Free.r3 []) (.seq (.cond (.s 5) .skip (.exit 0)) (.seq (.block 1 (.seq (.reg false image_Free.r4 [6]) (.reg false image_Free.r5 [2, 7, 8, 9]))) (.reg false image_Free.r6 [10]))))))) (.seq (.reg false image_Free.r7 [1, 11]) .ret))))
@[reducible] def image_Free : MFun := { params := 0, nfree := 0, res := [.cell 0 tInode], body := image_Free.body }
@[reducible] def image_New.r0 : List MOp := [⟨some 0, .alloc false tImage, none⟩]
@[reducible] def image_New.r1 : List MOp := [⟨some 3, .build tImage [], none⟩, ⟨some 1, .alloc false tImage, none⟩, ⟨none, .store tImage [] (.s 1) (.s 3), none⟩]
@[reducible] def image_New.r2 : List MOp := [⟨some 4, .mov (.c (.int .i64 0)), none⟩]
@[reducible] def image_New.r3 : List MOp := [⟨some 5, .bin .lss (.s 4) (.c (.int .i64 8)), none⟩]
@[reducible] def image_New.r4 : List MOp := [⟨some 6, .mov (.s 4), none⟩, ⟨some 2, .mov (.s 6), none⟩]
@[reducible] def image_New.r5 : List MOp := [⟨some 7, .mov (.s 2), none⟩, ⟨some 8, .call false [] 33 [], none⟩, ⟨some 9, .fld tImage 0 tInodes (.s 1), none⟩, ⟨some 10, .idx 8 tInode (.s 9) (.s 7), none⟩, ⟨none, .store tInode [] (.s 10) (.s 8), none⟩]
@[reducible] def image_New.r6 : List MOp := [⟨some 11, .bin .add (.s 4) (.c (.int .i64 1)), none⟩, ⟨some 4, .mov (.s 11), none⟩]
@[reducible] def image_New.r7 : List MOp := [⟨some 12, .load false none tImage (.s 1), none⟩, ⟨none, .store tImage [] (.s 0) (.s 12), none⟩]
@[reducible] def image_New.body : MC := (.seq (.reg false image_New.r0 []) (.seq (.reg false image_New.r1 [3]) (.seq (.seq (.reg false image_New.r2 []) (.block 0 (.loop [0, 1, 4] [0, 1] (.seq (.reg false image_New.r3 []) (.seq (.cond (.s 5) .skip (.exit 0)) (.seq (.block 1 (.seq (.reg false image_New.r4 [6]) (.reg false image_New.r5 [2, 7, 8, 9, 10]))) (.reg false image_New.r6 [11]))))))) (.seq (.reg false image_New.r7 [1, 12]) .ret))))
@[reducible] def image_New : MFun := { params := 0, nfree := 0, res := [.cell 0 tImage], body := image_New.body }
@[reducible] def image_twice.r0 : List MOp := [⟨some 2, .mov (.c (.bool false)), none⟩]
@[reducible] def image_twice.r1 : List MOp := [⟨some 3, .mov (.c .nilsl), none⟩, ⟨some 4, .mov (.c .nilsl), none⟩]
@[reducible] def image_twice.r2 : List MOp := [⟨some 9, .mov (.s 0), none⟩, ⟨some 10, .nilck (.s 9), none⟩, ⟨some 11, .fld tImage 0 tInodes (.s 10), none⟩, ⟨some 12, .load false none tInodes (.s 11), none⟩, ⟨some 13, .mov (.c (.int .i64 0)), none⟩]
@[reducible] def image_twice.r3 : List MOp := [⟨some 14, .bin .lss (.s 13) (.c (.int .i64 8)), none⟩]
@[reducible] def image_twice.r4 : List MOp := [⟨some 15, .aidx 8 tInode (.s 12) (.s 13), none⟩, ⟨some 6, .alloc false tInode, none⟩, ⟨none, .store tInode [] (.s 6) (.s 15), none⟩]
@[reducible] def image_twice.r5 : List MOp := [⟨some 16, .fld tInode 0 tB (.s 6), none⟩, ⟨some 17, .load false none tB (.s 16), none⟩, ⟨some 18, .un .not (.s 17), none⟩]
@[reducible] def image_twice.r6 : List MOp := [⟨some 19, .mov (.s 4), none⟩, ⟨some 20, .fld tInode 1 tI (.s 6), none⟩, ⟨some 21, .load false none tI (.s 20), none⟩, ⟨some 22, .call false [] 38 [(.s 19), (.s 21)], none⟩]
@[reducible] def image_twice.r7 : List MOp := [⟨some 2, .mov (.c (.bool true)), none⟩]
@[reducible] def image_twice.r8 : List MOp := [⟨some 23, .mov (.s 4), none⟩, ⟨some 24, .fld tInode 1 tI (.s 6), none⟩, ⟨some 25, .load false none tI (.s 24), none⟩, ⟨some 26, .bslice false tI 1 [(0, (.s 25))], none⟩, ⟨some 27, .append false tI (.s 23) (.s 26), none⟩, ⟨some 4, .mov (.s 27), none⟩]
@[reducible] def image_twice.r9 : List MOp := [⟨some 28, .fld tInode 3 tParts (.s 6), none⟩, ⟨some 29, .load false none tParts (.s 28), none⟩, ⟨some 30, .mov (.c (.int .i64 0)), none⟩]
@[reducible] def image_twice.r10 : List MOp := [⟨some 31, .bin .lss (.s 30) (.c (.int .i64 2)), none⟩]
@[reducible] def image_twice.r11 : List MOp := [⟨some 32, .aidx 2 tI (.s 29) (.s 30), none⟩, ⟨some 8, .mov (.s 32), none⟩]
@[reducible] def image_twice.r12 : List MOp := [⟨some 33, .mov (.s 8), none⟩, ⟨some 34, .bin .geq (.s 33) (.c (.int .i64 0)), none⟩, ⟨some 35, .mov (.s 34), none⟩, ⟨some 36, .mov (.s 3), some (35, true)⟩, ⟨some 37, .mov (.s 8), some (35, true)⟩, ⟨some 38, .call false [] 38 [(.s 36), (.s 37)], some (35, true)⟩, ⟨some 39, .pick (.s 35) (.s 38) (.c (.bool false)), none⟩]
@[reducible] def image_twice.r13 : List MOp := [⟨some 2, .mov (.c (.bool true)), none⟩]
@[reducible] def image_twice.r14 : List MOp := [⟨some 40, .mov (.s 3), none⟩, ⟨some 41, .mov (.s 8), none⟩, ⟨some 42, .bslice false tI 1 [(0, (.s 41))], none⟩, ⟨some 43, .append false tI (.s 40) (.s 42), none⟩, ⟨some 3, .mov (.s 43), none⟩]
@[reducible] def image_twice.r15 : List MOp := [⟨some 44, .bin .add (.s 30) (.c (.int .i64 1)), none⟩, ⟨some 30, .mov (.s 44), none⟩]
@[reducible] def image_twice.r16 : List MOp := [⟨some 45, .bin .add (.s 13) (.c (.int .i64 1)), none⟩, ⟨some 13, .mov (.s 45), none⟩]
@[reducible] def image_twice.r17 : List MOp := [⟨some 2, .mov (.c (.bool false)), none⟩]
@[reducible] def image_twice.body : MC := (.seq (.reg false image_twice.r0 [2]) (.seq (.reg false image_twice.r1 []) (.seq (.seq (.reg false image_twice.r2 [0, 9, 10, 11]) (.block 0 (.loop [3, 4, 12, 13] [27, 43] (.seq (.reg false image_twice.r3 []) (.seq (.cond (.s 14) .skip (.exit 0)) (.seq (.block 1 (.seq (.reg false image_twice.r4 [15]) (.seq (.seq (.reg false image_twice.r5 [16, 17]) (.cond (.s 18) (.exit 1) .skip)) (.seq (.seq (.reg false image_twice.r6 [19, 20, 21]) (.cond (.s 22) (.seq (.reg false image_twice.r7 []) .ret) .skip)) (.seq (.reg false image_twice.r8 [23, 24, 25, 26, 27]) (.seq (.reg false image_twice.r9 [6, 28]) (.block 2 (.loop [3, 4, 12, 13, 29, 30] [27, 43] (.seq (.reg false image_twice.r10 []) (.seq (.cond (.s 31) .skip (.exit 2)) (.seq (.block 3 (.seq (.reg false image_twice.r11 [32]) (.seq (.seq (.reg false image_twice.r12 [33, 34, 35, 36, 37, 38]) (.cond (.s 39) (.seq (.reg false image_twice.r13 []) .ret) .skip)) (.reg false image_twice.r14 [8, 40, 41, 42, 43])))) (.reg false image_twice.r15 [44])))))))))))) (.reg false image_twice.r16 [45]))))))) (.seq (.reg false image_twice.r17 []) .ret))))
@[reducible] def image_twice : MFun := { params := 1, nfree := 0, res := [.tmp 2], body := image_twice.body }
@[reducible] def image_inode.r0 : List MOp := [⟨some 4, .mov (.c (.int .i64 0)), none⟩]
@[reducible] def image_inode.r1 : List MOp := [⟨some 8, .mov (.s 0), none⟩, ⟨some 9, .mov (.s 1), none⟩, ⟨some 10, .nilck (.s 8), none⟩, ⟨some 11, .fld tImage 0 tInodes (.s 10), none⟩, ⟨some 12, .idx 8 tInode (.s 11) (.s 9), none⟩, ⟨some 13, .load false none tInode (.s 12), none⟩, ⟨some 5, .alloc false tInode, none⟩, ⟨none, .store tInode [] (.s 5) (.s 13), none⟩]
@[reducible] def image_inode.r2 : List MOp := [⟨some 14, .fld tInode 0 tB (.s 5), none⟩, ⟨some 15, .load false none tB (.s 14), none⟩, ⟨some 16, .un .not (.s 15), none⟩]
@[reducible] def image_inode.r3 : List MOp := [⟨some 17, .load false none tInode (.s 5), none⟩, ⟨some 18, .call true [] 33 [], none⟩, ⟨some 19, .eq true tInode (.s 17) (.s 18), none⟩]
@[reducible] def image_inode.r4 : List MOp := [⟨some 4, .mov (.c (.int .i64 12)), none⟩]
@[reducible] def image_inode.r5 : List MOp := [⟨some 4, .mov (.c (.int .i64 0)), none⟩]
@[reducible] def image_inode.r6 : List MOp := [⟨some 20, .fld tInode 1 tI (.s 5), none⟩, ⟨some 21, .load false none tI (.s 20), none⟩, ⟨some 22, .bin .lss (.s 21) (.c (.int .i64 1)), none⟩, ⟨some 23, .mov (.s 22), none⟩, ⟨some 24, .fld tInode 2 tI (.s 5), some (23, false)⟩, ⟨some 25, .load false none tI (.s 24), some (23, false)⟩, ⟨some 26, .mov (.s 0), some (23, false)⟩, ⟨some 27, .mov (.s 1), some (23, false)⟩, ⟨some 28, .call true [] 12 [(.s 26), (.s 27)], some (23, false)⟩, ⟨some 29, .bin .lss (.s 25) (.s 28), some (23, false)⟩, ⟨some 30, .pick (.s 23) (.c (.bool true)) (.s 29), none⟩]
@[reducible] def image_inode.r7 : List MOp := [⟨some 4, .mov (.c (.int .i64 9)), none⟩]
@[reducible] def image_inode.r8 : List MOp := [⟨some 31, .fld tInode 3 tParts (.s 5), none⟩, ⟨some 32, .load false none tParts (.s 31), none⟩, ⟨some 33, .mov (.c (.int .i64 0)), none⟩]
@[reducible] def image_inode.r9 : List MOp := [⟨some 34, .bin .lss (.s 33) (.c (.int .i64 2)), none⟩]
@[reducible] def image_inode.r10 : List MOp := [⟨some 35, .aidx 2 tI (.s 32) (.s 33), none⟩, ⟨some 7, .mov (.s 35), none⟩]
@[reducible] def image_inode.r11 : List MOp := [⟨some 37, .mov (.s 7), none⟩, ⟨some 38, .bin .lss (.s 37) (.c (.int .i64 (-1))), none⟩, ⟨some 39, .mov (.s 38), none⟩, ⟨some 40, .mov (.s 7), some (39, false)⟩, ⟨some 41, .bin .geq (.s 40) (.c (.int .i64 9)), some (39, false)⟩, ⟨some 42, .pick (.s 39) (.c (.bool true)) (.s 41), none⟩, ⟨some 36, .mov (.s 42), none⟩]
@[reducible] def image_inode.r12 : List MOp := [⟨some 4, .mov (.c (.int .i64 1)), none⟩]
@[reducible] def image_inode.r13 : List MOp := [⟨some 44, .mov (.s 7), none⟩, ⟨some 45, .bin .geq (.s 44) (.c (.int .i64 0)), none⟩, ⟨some 46, .mov (.s 45), none⟩, ⟨some 47, .mov (.s 0), some (46, true)⟩, ⟨some 48, .mov (.s 7), some (46, true)⟩, ⟨some 49, .nilck (.s 47), some (46, true)⟩, ⟨some 50, .fld tImage 2 tDatas (.s 49), some (46, true)⟩, ⟨some 51, .idx 9 tData (.s 50) (.s 48), some (46, true)⟩, ⟨some 52, .fld tData 0 tI (.s 51), some (46, true)⟩, ⟨some 53, .load false none tI (.s 52), some (46, true)⟩, ⟨some 54, .fld tInode 1 tI (.s 5), some (46, true)⟩, ⟨some 55, .load false none tI (.s 54), some (46, true)⟩, ⟨some 56, .bin .neq (.s 53) (.s 55), some (46, true)⟩, ⟨some 57, .pick (.s 46) (.s 56) (.c (.bool false)), none⟩, ⟨some 43, .mov (.s 57), none⟩]
@[reducible] def image_inode.r14 : List MOp := [⟨some 4, .mov (.c (.int .i64 10)), none⟩]
@[reducible] def image_inode.r15 : List MOp := [⟨some 58, .bin .add (.s 33) (.c (.int .i64 1)), none⟩, ⟨some 33, .mov (.s 58), none⟩]
@[reducible] def image_inode.r16 : List MOp := [⟨some 4, .mov (.c (.int .i64 0)), none⟩]
@[reducible] def image_inode.body : MC := (.seq (.reg false image_inode.r0 [4]) (.seq (.reg false image_inode.r1 [8, 9, 10, 11, 12, 13]) (.seq (.seq (.reg false image_inode.r2 [14, 15]) (.cond (.s 16) (.seq (.seq (.reg true image_inode.r3 [5, 17, 18]) (.cond (.s 19) (.seq (.reg false image_inode.r4 []) .ret) .skip)) (.seq (.reg false image_inode.r5 []) .ret)) .skip)) (.seq (.seq (.reg true image_inode.r6 [1, 20, 21, 22, 23, 24, 25, 26, 27, 28, 29]) (.cond (.s 30) (.seq (.reg false image_inode.r7 []) .ret) .skip)) (.seq (.seq (.reg false image_inode.r8 [31]) (.block 0 (.loop [0, 5, 32, 33] [5] (.seq (.reg false image_inode.r9 []) (.seq (.cond (.s 34) .skip (.exit 0)) (.seq (.block 1 (.seq (.reg false image_inode.r10 [35]) (.block 2 (.seq (.reg false image_inode.r11 [37, 38, 39, 40, 41, 42]) (.cond (.s 36) (.seq (.reg false image_inode.r12 []) .ret) (.seq (.reg true image_inode.r13 [7, 44, 45, 46, 47, 48, 49, 50, 51, 52, 53, 54, 55, 56, 57]) (.cond (.s 43) (.seq (.reg false image_inode.r14 []) .ret) .skip))))))) (.reg false image_inode.r15 [58]))))))) (.seq (.reg false image_inode.r16 []) .ret))))))
@[reducible] def image_inode : MFun := { params := 2, nfree := 0, res := [.tmp 4], body := image_inode.body }
@[reducible] def image_entry.r0 : List MOp := [⟨some 6, .mov (.c (.int .i64 0)), none⟩]
@[reducible] def image_entry.r1 : List MOp := [⟨some 10, .mov (.s 0), none⟩, ⟨some 11, .mov (.s 1), none⟩, ⟨some 12, .mov (.s 2), none⟩, ⟨some 13, .nilck (.s 10), none⟩, ⟨some 14, .fld tImage 1 tDirs (.s 13), none⟩, ⟨some 15, .idx 3 tRow (.s 14) (.s 11), none⟩, ⟨some 16, .idx 4 tEntry (.s 15) (.s 12), none⟩, ⟨some 17, .load false none tEntry (.s 16), none⟩, ⟨some 7, .alloc false tEntry, none⟩, ⟨none, .store tEntry [] (.s 7) (.s 17), none⟩]
@[reducible] def image_entry.r2 : List MOp := [⟨some 18, .fld tEntry 0 tS (.s 7), none⟩, ⟨some 19, .load false none tS (.s 18), none⟩, ⟨some 20, .bin .eql (.s 19) (.c (.str ⟨#[]⟩)), none⟩]
@[reducible] def image_entry.r3 : List MOp := [⟨some 21, .load false none tEntry (.s 7), none⟩, ⟨some 22, .build tEntry [], none⟩, ⟨some 23, .eq true tEntry (.s 21) (.s 22), none⟩]
@[reducible] def image_entry.r4 : List MOp := [⟨some 6, .mov (.c (.int .i64 12)), none⟩]
@[reducible] def image_entry.r5 : List MOp := [⟨some 6, .mov (.c (.int .i64 0)), none⟩]
@[reducible] def image_entry.r6 : List MOp := [⟨some 24, .fld tEntry 0 tS (.s 7), none⟩, ⟨some 25, .load false none tS (.s 24), none⟩, ⟨some 26, .call false [] 14 [(.s 25)], none⟩, ⟨some 27, .un .not (.s 26), none⟩]
@[reducible] def image_entry.r7 : List MOp := [⟨some 6, .mov (.c (.int .i64 2)), none⟩]
@[reducible] def image_entry.r8 : List MOp := [⟨some 28, .mov (.s 2), none⟩, ⟨some 29, .mov (.c (.int .i64 0)), none⟩]
@[reducible] def image_entry.r9 : List MOp := [⟨some 30, .bin .lss (.s 29) (.s 28), none⟩]
@[reducible] def image_entry.r10 : List MOp := [⟨some 31, .mov (.s 29), none⟩, ⟨some 8, .mov (.s 31), none⟩]
@[reducible] def image_entry.r11 : List MOp := [⟨some 32, .mov (.s 0), none⟩, ⟨some 33, .mov (.s 1), none⟩, ⟨some 34, .mov (.s 8), none⟩, ⟨some 35, .nilck (.s 32), none⟩, ⟨some 36, .fld tImage 1 tDirs (.s 35), none⟩, ⟨some 37, .idx 3 tRow (.s 36) (.s 33), none⟩, ⟨some 38, .idx 4 tEntry (.s 37) (.s 34), none⟩, ⟨some 39, .fld tEntry 0 tS (.s 38), none⟩, ⟨some 40, .load false none tS (.s 39), none⟩, ⟨some 41, .fld tEntry 0 tS (.s 7), none⟩, ⟨some 42, .load false none tS (.s 41), none⟩, ⟨some 43, .bin .eql (.s 40) (.s 42), none⟩]
@[reducible] def image_entry.r12 : List MOp := [⟨some 6, .mov (.c (.int .i64 4)), none⟩]
@[reducible] def image_entry.r13 : List MOp := [⟨some 44, .bin .add (.s 29) (.c (.int .i64 1)), none⟩, ⟨some 29, .mov (.s 44), none⟩]
@[reducible] def image_entry.r14 : List MOp := [⟨some 45, .fld tEntry 1 tI (.s 7), none⟩, ⟨some 46, .load false none tI (.s 45), none⟩, ⟨some 47, .bin .lss (.s 46) (.c (.int .i64 0)), none⟩, ⟨some 48, .mov (.s 47), none⟩, ⟨some 49, .fld tEntry 1 tI (.s 7), some (48, false)⟩, ⟨some 50, .load false none tI (.s 49), some (48, false)⟩, ⟨some 51, .bin .geq (.s 50) (.c (.int .i64 8)), some (48, false)⟩, ⟨some 52, .pick (.s 48) (.c (.bool true)) (.s 51), none⟩]
@[reducible] def image_entry.r15 : List MOp := [⟨some 6, .mov (.c (.int .i64 1)), none⟩]
@[reducible] def image_entry.r16 : List MOp := [⟨some 53, .mov (.s 0), none⟩, ⟨some 54, .fld tEntry 1 tI (.s 7), none⟩, ⟨some 55, .load false none tI (.s 54), none⟩, ⟨some 56, .nilck (.s 53), none⟩, ⟨some 57, .fld tImage 0 tInodes (.s 56), none⟩, ⟨some 58, .idx 8 tInode (.s 57) (.s 55), none⟩, ⟨some 59, .load false none tInode (.s 58), none⟩, ⟨some 9, .alloc false tInode, none⟩, ⟨none, .store tInode [] (.s 9) (.s 59), none⟩]
@[reducible] def image_entry.r17 : List MOp := [⟨some 60, .fld tInode 0 tB (.s 9), none⟩, ⟨some 61, .load false none tB (.s 60), none⟩, ⟨some 62, .un .not (.s 61), none⟩, ⟨some 63, .mov (.s 62), none⟩, ⟨some 64, .fld tInode 1 tI (.s 9), some (63, false)⟩, ⟨some 65, .load false none tI (.s 64), some (63, false)⟩, ⟨some 66, .fld tEntry 2 tI (.s 7), some (63, false)⟩, ⟨some 67, .load false none tI (.s 66), some (63, false)⟩, ⟨some 68, .bin .neq (.s 65) (.s 67), some (63, false)⟩, ⟨some 69, .pick (.s 63) (.c (.bool true)) (.s 68), none⟩]
@[reducible] def image_entry.r18 : List MOp := [⟨some 6, .mov (.c (.int .i64 8)), none⟩]
@[reducible] def image_entry.r19 : List MOp := [⟨some 6, .mov (.c (.int .i64 0)), none⟩]
@[reducible] def image_entry.body : MC := (.seq (.reg false image_entry.r0 [6]) (.seq (.reg false image_entry.r1 [10, 11, 12, 13, 14, 15, 16, 17]) (.seq (.seq (.reg false image_entry.r2 [18, 19]) (.cond (.s 20) (.seq (.seq (.reg false image_entry.r3 [7, 21, 22]) (.cond (.s 23) (.seq (.reg false image_entry.r4 []) .ret) .skip)) (.seq (.reg false image_entry.r5 []) .ret)) .skip)) (.seq (.seq (.reg false image_entry.r6 [24, 25, 26]) (.cond (.s 27) (.seq (.reg false image_entry.r7 []) .ret) .skip)) (.seq (.seq (.reg false image_entry.r8 [2]) (.block 0 (.loop [0, 1, 7, 28, 29] [7] (.seq (.reg false image_entry.r9 []) (.seq (.cond (.s 30) .skip (.exit 0)) (.seq (.block 1 (.seq (.reg false image_entry.r10 [31]) (.seq (.reg true image_entry.r11 [8, 32, 33, 34, 35, 36, 37, 38, 39, 40, 41, 42]) (.cond (.s 43) (.seq (.reg false image_entry.r12 []) .ret) .skip)))) (.reg false image_entry.r13 [44]))))))) (.seq (.seq (.reg false image_entry.r14 [45, 46, 47, 48, 49, 50, 51]) (.cond (.s 52) (.seq (.reg false image_entry.r15 []) .ret) .skip)) (.seq (.seq (.reg true image_entry.r16 [0, 53, 54, 55, 56, 57, 58, 59]) (.seq (.reg false image_entry.r17 [7, 9, 60, 61, 62, 63, 64, 65, 66, 67, 68]) (.cond (.s 69) (.seq (.reg false image_entry.r18 []) .ret) .skip))) (.seq (.reg false image_entry.r19 []) .ret))))))))
@[reducible] def image_entry : MFun := { params := 3, nfree := 0, res := [.tmp 6], body := image_entry.body }
@[reducible] def slices_Contains.r0 : List MOp := [⟨some 4, .mov (.c (.bool false)), none⟩]
@[reducible] def slices_Contains.r1 : List MOp := [⟨some 5, .mov (.s 0), none⟩, ⟨some 6, .mov (.s 1), none⟩, ⟨some 7, .call false [] 39 [(.s 5), (.s 6)], none⟩, ⟨some 8, .bin .geq (.s 7) (.c (.int .i64 0)), none⟩, ⟨some 4, .mov (.s 8), none⟩]
@[reducible] def slices_Contains.body : MC := (.seq (.reg false slices_Contains.r0 [4]) (.seq (.reg false slices_Contains.r1 [0, 1, 5, 6, 7, 8]) .ret))
@[reducible] def slices_Contains : MFun := { params := 2, nfree := 0, res := [.tmp 4], body := slices_Contains.body }
@[reducible] def slices_Index.r0 : List MOp := [⟨some 4, .mov (.c (.int .i64 0)), none⟩]
@[reducible] def slices_Index.r1 : List MOp := [⟨some 6, .mov (.s 0), none⟩, ⟨some 7, .len false (.s 6), none⟩, ⟨some 8, .mov (.c (.int .i64 0)), none⟩]
@[reducible] def slices_Index.r2 : List MOp := [⟨some 9, .bin .lss (.s 8) (.s 7), none⟩]
@[reducible] def slices_Index.r3 : List MOp := [⟨some 10, .mov (.s 8), none⟩, ⟨some 5, .mov (.s 10), none⟩]
@[reducible] def slices_Index.r4 : List MOp := [⟨some 11, .mov (.s 1), none⟩, ⟨some 12, .mov (.s 0), none⟩, ⟨some 13, .mov (.s 5), none⟩, ⟨some 14, .sidx false tI (.s 12) (.s 13), none⟩, ⟨some 15, .load false none tI (.s 14), none⟩, ⟨some 16, .bin .eql (.s 11) (.s 15), none⟩]
@[reducible] def slices_Index.r5 : List MOp := [⟨some 17, .mov (.s 5), none⟩, ⟨some 4, .mov (.s 17), none⟩]
@[reducible] def slices_Index.r6 : List MOp := [⟨some 18, .bin .add (.s 8) (.c (.int .i64 1)), none⟩, ⟨some 8, .mov (.s 18), none⟩]
@[reducible] def slices_Index.r7 : List MOp := [⟨some 4, .mov (.c (.int .i64 (-1))), none⟩]
@[reducible] def slices_Index.body : MC := (.seq (.reg false slices_Index.r0 [4]) (.seq (.seq (.reg false slices_Index.r1 [6]) (.block 0 (.loop [0, 1, 7, 8] [7] (.seq (.reg false slices_Index.r2 []) (.seq (.cond (.s 9) .skip (.exit 0)) (.seq (.block 1 (.seq (.reg false slices_Index.r3 [10]) (.seq (.reg false slices_Index.r4 [11, 12, 13, 14, 15]) (.cond (.s 16) (.seq (.reg false slices_Index.r5 [5, 17]) .ret) .skip)))) (.reg false slices_Index.r6 [18]))))))) (.seq (.reg false slices_Index.r7 []) .ret)))
@[reducible] def slices_Index : MFun := { params := 2, nfree := 0, res := [.tmp 4], body := slices_Index.body }
end Fn
def tblL : List (Option MFun) := [some Fn.safe_Union, none, some Fn.safe_Inode, none, some Fn.safe_Entry, none, none, some Fn.safe_Block, none, some Fn.safe_Write, none, none, some Fn.image_Refs, some Fn.eiderdownref_None, some Fn.image_Name, some Fn.eiderdownref_IsName, some Fn.eiderdownref_Leads, some Fn.image_Holds, none, some Fn.image_Find, some Fn.eiderdownref_SlotOf, some Fn.image_Check, some Fn.eiderdownref_ImageFault, some Fn.image_Exact, none, none, none, some Fn.mend_Mend, none, none, none, some Fn.eiderdownref_leads, some Fn.safe_part, some Fn.image_Free, some Fn.image_New, some Fn.image_twice, some Fn.image_inode, some Fn.image_entry, some Fn.slices_Contains, some Fn.slices_Index, none, none, none, none, none, none, none, none, none, none, none, none, none, none, none, none, none, none, none, none, none, none, none, none, none, none, none, none, none, none, none, none, none, none, none, none, none, none, none, none, none, none, none, none, none, none, none, none, none, none, none, none, none, none, none, none, none, none, none, none, none, none, none, none, none, none, none, none, none, none, none, none, none, none, none, none, none, none, none, none, none, none, none, none, none, none, none, none, none, none, none, none, none, none, none, none, none, none, none, none, none, none, none, none, none, none, none, none, none, none, none, none, none, none, none, none, none, none, none, none, none, none, none, none, none, none, none, none, none, none, none, none, none, none, none, none, none, none, none, none, none, none, none, none, none, none, none, none, none, none, none]
def tbl (f : Nat) : Option MFun := tblL.getD f none
end Go.Mini

namespace Go.Mini
set_option linter.unusedSimpArgs false
set_option linter.unusedVariables false
def onO {α : Type} (o : Option α) (f : α → Prop) : Prop := match o with | some a => f a | none => False
@[go_sem] theorem onO_some {α : Type} (a : α) (f : α → Prop) : onO (some a) f = f a := rfl
@[go_sem] theorem onO_none {α : Type} (f : α → Prop) : onO none f = False := rfl
section
variable {T : Nat → Option MFun} {cx : Cx} {k : List Item} {kill : List Nat} {r : List MOp} {sl : Slots} {own : Own} {h : HP} {Q : St → Prop}
def W1 (T : Nat → Option MFun) (cx : Cx) (o : Option AV) (d : Option Nat) (r : List MOp) (kill : List Nat) (k : List Item) (s : St) (Q : St → Prop) : Prop := onO o fun v => W T cx (.ops r kill :: k) (s.setd d v) Q
@[go_sem] theorem W1_some {v : AV} {d : Option Nat} {s : St} : W1 T cx (some v) d r kill k s Q = W T cx (.ops r kill :: k) (s.setd d v) Q := rfl
@[go_sem] theorem W1_none {d : Option Nat} {s : St} : W1 T cx none d r kill k s Q = False := rfl
def W2 (T : Nat → Option MFun) (cx : Cx) (o : Option St) (r : List MOp) (kill : List Nat) (k : List Item) (Q : St → Prop) : Prop := onO o fun s' => W T cx (.ops r kill :: k) s' Q
@[go_sem] theorem W2_some {s : St} : W2 T cx (some s) r kill k Q = W T cx (.ops r kill :: k) s Q := rfl
@[go_sem] theorem W2_none : W2 T cx none r kill k Q = False := rfl
def WX (T : Nat → Option MFun) (cx : Cx) (o : Option (List Item)) (s : St) (Q : St → Prop) : Prop := onO o fun k' => W T cx k' s Q
@[go_sem] theorem WX_some {s : St} : WX T cx (some k) s Q = W T cx k s Q := rfl
@[go_sem] theorem WX_none {s : St} : WX T cx none s Q = False := rfl
theorem W_iff {s s1 : St} {k k1 : List Item} (hn : next T cx k s = .go k1 s1) : W T cx k s Q = W T cx k1 s1 Q := by
  apply propext
  constructor
  · rintro ⟨n, s', hr, hq⟩
    cases n with
    | zero => simp [run] at hr
    | succ n => rw [run, hn] at hr; exact ⟨n, s', hr, hq⟩
  · exact W_go hn
theorem W_fail {s : St} {k : List Item} (hn : next T cx k s = .fail) : W T cx k s Q = False := by
  apply propext
  constructor
  · rintro ⟨n, s', hr, hq⟩
    cases n with
    | zero => simp [run] at hr
    | succ n => rw [run, hn] at hr; simp at hr
  · exact False.elim
theorem W_iff_done {s s1 : St} {k : List Item} (hn : next T cx k s = .done s1) : W T cx k s Q = Q s1 := by
  apply propext
  constructor
  · rintro ⟨n, s', hr, hq⟩
    cases n with
    | zero => simp [run] at hr
    | succ n => rw [run, hn] at hr; simp at hr; subst hr; exact hq
  · exact W_done hn
@[go_sem] theorem W_nil {s : St} : W T cx [] s Q = Q s := W_iff_done rfl
@[go_sem] theorem W_inBlock {i : Nat} {s : St} : W T cx (.inBlock i :: k) s Q = W T cx k s Q := W_iff rfl
@[go_sem] theorem W_skip {s : St} : W T cx (.code .skip :: k) s Q = W T cx k s Q := W_iff rfl
@[go_sem] theorem W_seq {a b : MC} {s : St} : W T cx (.code (.seq a b) :: k) s Q = W T cx (.code a :: .code b :: k) s Q := W_iff rfl
@[go_sem] theorem W_block {i : Nat} {b : MC} {s : St} : W T cx (.code (.block i b) :: k) s Q = W T cx (.code b :: .inBlock i :: k) s Q := W_iff rfl
@[go_sem] theorem W_ret {s : St} : W T cx (.code .ret :: k) s Q = Q s := W_iff_done rfl
@[go_sem] theorem W_regF {ops : List MOp} {s : St} : W T cx (.code (.reg false ops kill) :: k) s Q = W T cx (.ops ops kill :: k) s Q := W_iff rfl
@[go_sem] theorem W_exit {i : Nat} {s : St} : W T cx (.code (.exit i) :: k) s Q = WX T cx (exitTo i k) s Q := by
  cases hk : exitTo i k with
  | none => exact W_fail (by simp [next, hk])
  | some k' => exact W_iff (by simp [next, hk])
@[go_sem] theorem exitTo_here {j : Nat} : exitTo j (.inBlock j :: k) = some k := by simp [exitTo]
@[go_sem] theorem exitTo_block {i j : Nat} : exitTo i (.inBlock j :: k) = if j = i then some k else exitTo i k := rfl
@[go_sem] theorem exitTo_code {i : Nat} {c : MC} : exitTo i (.code c :: k) = exitTo i k := rfl
@[go_sem] theorem exitTo_ops {i : Nat} {l : List MOp} : exitTo i (.ops l kill :: k) = exitTo i k := rfl
@[go_sem] theorem exitTo_loop {i : Nat} {a b : List Nat} {c : MC} : exitTo i (.inLoop a b c :: k) = exitTo i k := rfl
def bCond (v : AV) (A B : Prop) : Prop := match v with | .bool b => if b = true then A else B | _ => False
def WC (T : Nat → Option MFun) (cx : Cx) (v : AV) (t e : MC) (k : List Item) (s : St) (Q : St → Prop) : Prop := bCond v (W T cx (.code t :: k) s Q) (W T cx (.code e :: k) s Q)
@[go_sem] theorem WC_true {t e : MC} {s : St} : WC T cx (.bool true) t e k s Q = W T cx (.code t :: k) s Q := rfl
@[go_sem] theorem WC_false {t e : MC} {s : St} : WC T cx (.bool false) t e k s Q = W T cx (.code e :: k) s Q := rfl
theorem WC_intro {b : Bool} {t e : MC} {s : St} (h1 : b = true → W T cx (.code t :: k) s Q) (h2 : b = false → W T cx (.code e :: k) s Q) : WC T cx (.bool b) t e k s Q := by
  cases b
  · exact h2 rfl
  · exact h1 rfl
@[go_sem] theorem W_cond {c : Opd} {t e : MC} {s : St} : W T cx (.code (.cond c t e) :: k) s Q = WC T cx (s.opd c) t e k s Q := by
  show _ = bCond (s.opd c) (W T cx (.code t :: k) s Q) (W T cx (.code e :: k) s Q)
  cases hc : s.opd c with
  | bool b => cases b <;> simp only [bCond] <;> exact W_iff (by simp [next, hc])
  | _ => exact W_fail (by simp [next, hc])
@[go_sem] theorem W_opsnil : W T cx (.ops [] kill :: k) ⟨sl, own, h⟩ Q = W T cx k ⟨sl.without kill, own, h⟩ Q := W_iff rfl
def gCond (v : AV) (b : Bool) (A B : Prop) : Prop := match v with
  | .bool c => if (c == b) = true then A else B
  | .tup .unit => B
  | _ => False
def WG (T : Nat → Option MFun) (cx : Cx) (v : AV) (b : Bool) (d : Option Nat) (o : MK) (r : List MOp) (kill : List Nat) (k : List Item) (s : St) (Q : St → Prop) : Prop :=
  gCond v b (W T cx (.ops (⟨d, o, none⟩ :: r) kill :: k) s Q) (W T cx (.ops r kill :: k) (s.setd d .undef) Q)
@[go_sem] theorem WG_tt {d : Option Nat} {o : MK} {s : St} : WG T cx (.bool true) true d o r kill k s Q = W T cx (.ops (⟨d, o, none⟩ :: r) kill :: k) s Q := rfl
@[go_sem] theorem WG_ff {d : Option Nat} {o : MK} {s : St} : WG T cx (.bool false) false d o r kill k s Q = W T cx (.ops (⟨d, o, none⟩ :: r) kill :: k) s Q := rfl
@[go_sem] theorem WG_tf {d : Option Nat} {o : MK} {s : St} : WG T cx (.bool true) false d o r kill k s Q = W T cx (.ops r kill :: k) (s.setd d .undef) Q := rfl
@[go_sem] theorem WG_ft {d : Option Nat} {o : MK} {s : St} : WG T cx (.bool false) true d o r kill k s Q = W T cx (.ops r kill :: k) (s.setd d .undef) Q := rfl
@[go_sem] theorem WG_undef {b : Bool} {d : Option Nat} {o : MK} {s : St} : WG T cx .undef b d o r kill k s Q = W T cx (.ops r kill :: k) (s.setd d .undef) Q := rfl
theorem WG_intro {b c : Bool} {d : Option Nat} {o : MK} {s : St} (h1 : b = c → W T cx (.ops (⟨d, o, none⟩ :: r) kill :: k) s Q) (h2 : b = (!c) → W T cx (.ops r kill :: k) (s.setd d .undef) Q) : WG T cx (.bool b) c d o r kill k s Q := by
  cases b <;> cases c
  · exact h1 rfl
  · exact h2 rfl
  · exact h2 rfl
  · exact h1 rfl
@[go_sem] theorem W_guard {d : Option Nat} {o : MK} {t : Nat} {b : Bool} {s : St} : W T cx (.ops (⟨d, o, some (t, b)⟩ :: r) kill :: k) s Q = WG T cx (Slots.get s.sl t) b d o r kill k s Q := by
  show _ = gCond (Slots.get s.sl t) b (W T cx (.ops (⟨d, o, none⟩ :: r) kill :: k) s Q) (W T cx (.ops r kill :: k) (s.setd d .undef) Q)
  have key : ∀ (o' : MOp), o'.d = d → o'.k = o → s.wanted o'.g = some true → next T cx (.ops (o' :: r) kill :: k) s = opCmd T cx d o (.ops r kill :: k) s := by
    intro o' h1 h2 h3; subst h1; subst h2; simp [next, h3]
  have e : s.wanted (some (t, b)) = some true → W T cx (.ops (⟨d, o, some (t, b)⟩ :: r) kill :: k) s Q = W T cx (.ops (⟨d, o, none⟩ :: r) kill :: k) s Q := by
    intro hw
    have h1 := key ⟨d, o, some (t, b)⟩ rfl rfl hw
    have h2 := key ⟨d, o, none⟩ rfl rfl rfl
    apply propext
    constructor <;> rintro ⟨n, s', hr, hq⟩ <;> refine ⟨n, s', ?_, hq⟩ <;> cases n <;> simp only [run] at hr ⊢
    · exact absurd hr (by simp)
    · rw [h2]; rw [h1] at hr; exact hr
    · exact absurd hr (by simp)
    · rw [h1]; rw [h2] at hr; exact hr
  have e2 : s.wanted (some (t, b)) = some false → W T cx (.ops (⟨d, o, some (t, b)⟩ :: r) kill :: k) s Q = W T cx (.ops r kill :: k) (s.setd d .undef) Q := by
    intro hw; exact W_iff (by simp [next, hw])
  have e3 : s.wanted (some (t, b)) = none → W T cx (.ops (⟨d, o, some (t, b)⟩ :: r) kill :: k) s Q = False := by
    intro hw; exact W_fail (by simp [next, hw])
  cases hv : Slots.get s.sl t with
  | bool c =>
    simp only [gCond]
    split
    · exact e (by simp_all [St.wanted])
    · exact e2 (by simp_all [St.wanted])
  | tup v => cases v with
    | unit => exact e2 (by simp [St.wanted, hv])
    | _ => exact e3 (by simp [St.wanted, hv])
  | _ => exact e3 (by simp [St.wanted, hv])
def MK.isCallK : MK → Bool
  | .call .. => true
  | .callv .. => true
  | _ => false
theorem W_op {d : Option Nat} {o : MK} (hc : o.isCallK = false) {s : St} : W T cx (.ops (⟨d, o, none⟩ :: r) kill :: k) s Q =
    onO (evOp cx d o s) fun p => W T cx (.ops r kill :: k) (p.2.setd d p.1) Q := by
  have hn : next T cx (.ops (⟨d, o, none⟩ :: r) kill :: k) s = match evOp cx d o s with
    | some (v, s') => .go (.ops r kill :: k) (s'.setd d v)
    | none => .fail := by
    simp only [next, St.wanted]
    cases o <;> first | rfl | simp [MK.isCallK] at hc
  cases he : evOp cx d o s with
  | none => rw [he] at hn; exact W_fail hn
  | some p => rw [he] at hn; exact W_iff hn
theorem W_val {d : Option Nat} {o : MK} (hc : o.isCallK = false) {s : St} {f : Option AV} (he : evK s.opd (s.look cx) o = f.map .val) : W T cx (.ops (⟨d, o, none⟩ :: r) kill :: k) s Q =
    onO f fun v => W T cx (.ops r kill :: k) (s.setd d v) Q := by
  rw [W_op hc, evOp, he]
  cases f <;> rfl
@[go_sem] theorem W_mov {d : Option Nat} {x : Opd} {s : St} : W T cx (.ops (⟨d, .mov x, none⟩ :: r) kill :: k) s Q = W T cx (.ops r kill :: k) (s.setd d (s.opd x)) Q :=
  W_val (f := some (s.opd x)) rfl rfl
def pickV : AV → AV → AV → Option AV
  | .bool true, a, _ => some a
  | .bool false, _, b => some b
  | _, _, _ => none
@[go_sem] theorem pickV_t (a b : AV) : pickV (.bool true) a b = some a := rfl
@[go_sem] theorem pickV_f (a b : AV) : pickV (.bool false) a b = some b := rfl
@[go_sem] theorem pickV_bb (c x y : Bool) : pickV (.bool c) (.bool x) (.bool y) = some (.bool (if c = true then x else y)) := by cases c <;> rfl
@[go_sem] theorem W_pick {d : Option Nat} {c x y : Opd} {s : St} : W T cx (.ops (⟨d, .pick c x y, none⟩ :: r) kill :: k) s Q = W1 T cx (pickV (s.opd c) (s.opd x) (s.opd y)) d r kill k s Q :=
  W_val rfl (by simp only [evK]; split <;> simp_all [pickV])
@[go_sem] theorem W_bin {d : Option Nat} {op : BinOp} {x y : Opd} {s : St} : W T cx (.ops (⟨d, .bin op x y, none⟩ :: r) kill :: k) s Q = W1 T cx (evBin op (s.opd x) (s.opd y)) d r kill k s Q :=
  W_val rfl rfl
@[go_sem] theorem W_un {d : Option Nat} {op : UnOp} {x : Opd} {s : St} : W T cx (.ops (⟨d, .un op x, none⟩ :: r) kill :: k) s Q = W1 T cx (evUn op (s.opd x)) d r kill k s Q :=
  W_val rfl rfl
def eqV (t : Ty) (neg : Bool) (x y : AV) : Option AV := if t.eqOk x && t.eqOk y then (x.eq y).map fun b => .bool (if neg then !b else b) else none
@[go_sem] theorem W_eq {d : Option Nat} {neg : Bool} {t : Ty} {x y : Opd} {s : St} : W T cx (.ops (⟨d, .eq neg t x y, none⟩ :: r) kill :: k) s Q = W1 T cx (eqV t neg (s.opd x) (s.opd y)) d r kill k s Q :=
  W_val rfl (by simp only [evK, eqV]; split <;> simp [Function.comp_def])
@[go_sem] theorem W_alloc {d : Nat} {t : Ty} : W T cx (.ops (⟨some d, .alloc false t, none⟩ :: r) kill :: k) ⟨sl, own, h⟩ Q =
    W T cx (.ops r kill :: k) ⟨(Slots.forget sl (.stk cx.lvl d)).set d (.ptr (.stk cx.lvl d) [] t), own.set d ⟨t, t.zero⟩, h⟩ Q := by
  rw [W_op rfl]; rfl
@[go_sem] theorem W_box {d : Nat} {t : Ty} {x : Opd} : W T cx (.ops (⟨some d, .box false t x, none⟩ :: r) kill :: k) ⟨sl, own, h⟩ Q =
    (t.fits (St.opd ⟨sl, own, h⟩ x) = true ∧ W T cx (.ops r kill :: k) ⟨(Slots.forget sl (.stk cx.lvl d)).set d (.ptr (.stk cx.lvl d) [] t), own.set d ⟨t, St.opd ⟨sl, own, h⟩ x⟩, h⟩ Q) := by
  rw [W_op rfl, evOp]
  simp only [evK]
  by_cases h1 : t.fits (St.opd ⟨sl, own, h⟩ x) = true
  · simp only [h1, true_and, if_true]; rfl
  · simp only [h1, false_and, Bool.false_eq_true, if_false]; rfl
@[go_sem] theorem W_build {d : Option Nat} {t : Ty} {ps : List (Nat × Opd)} {s : St} : W T cx (.ops (⟨d, .build t ps, none⟩ :: r) kill :: k) s Q = W1 T cx (fill t t.zero (ps.map fun p => (p.1, s.opd p.2))) d r kill k s Q :=
  W_val rfl rfl
def ldV (t : Ty) (x : AV) (R : Id → List Nat → Option AV) : Option AV := match x with
  | .ptr i p t' => if t = t' then match R i p with | some v => if t.fits v then some v else none | none => none else none
  | _ => none
def fitO (t : Ty) : Option AV → Option AV | some v => if t.fits v = true then some v else none | none => none
@[go_sem] theorem ldV_ptr (t : Ty) (i : Id) (p : List Nat) (R : Id → List Nat → Option AV) : ldV t (.ptr i p t) R = fitO t (R i p) := by simp only [ldV, if_true, fitO]
theorem fitO_some {t : Ty} {v : AV} (hv : t.fits v = true) : fitO t (some v) = some v := by simp [fitO, hv]
@[go_sem] theorem fitO_int (k : IntKind) (n : Int) : fitO (.leaf (.int k)) (some (.int k n)) = some (.int k n) := fitO_some (by simp [Ty.fits, LK.fits, AV.safe])
@[go_sem] theorem fitO_str (s : ByteArray) : fitO (.leaf .str) (some (.str s)) = some (.str s) := rfl
@[go_sem] theorem fitO_bool (b : Bool) : fitO (.leaf .bool) (some (.bool b)) = some (.bool b) := rfl
@[go_sem] theorem W_load {d : Option Nat} {t : Ty} {x : Opd} {s : St} : W T cx (.ops (⟨d, .load false none t x, none⟩ :: r) kill :: k) s Q = W1 T cx (ldV t (s.opd x) (s.rd cx)) d r kill k s Q :=
  W_val rfl (by
    simp only [evK]
    cases s.opd x <;> simp only [ldV, rooted, Bool.false_eq_true, false_implies, true_and, and_true, Option.map_none] <;> try rfl
    rename_i i p t'
    by_cases ht : t = t'
    · simp only [ht, if_true, St.rd]
      cases (s.look cx i).bind fun b => b.val.at p with
      | none => rfl
      | some v => by_cases hf : t'.fits v = true <;> simp [hf]
    · simp only [ht, if_false, Option.map_none])
def intoV (x v : AV) : Bool := match x with | .ptr i _ _ => v.into i | _ => false
@[go_sem] theorem intoV_ptr (i : Id) (p : List Nat) (t : Ty) (v : AV) : intoV (.ptr i p t) v = v.into i := rfl
def apartV (x v : AV) : Bool := match x with | .ptr i _ _ => v.apart i | _ => false
@[go_sem] theorem apartV_ptr (i : Id) (p : List Nat) (t : Ty) (v : AV) : apartV (.ptr i p t) v = v.apart i := rfl
def apAll (s : St) (x : AV) : List Nat → Prop
  | [] => True
  | u :: l => apartV x (Slots.get s.sl u) = true ∧ apAll s x l
@[go_sem] theorem apAll_nil (s : St) (x : AV) : apAll s x [] = True := rfl
@[go_sem] theorem apAll_cons (x : AV) (u : Nat) (l : List Nat) : apAll ⟨sl, own, h⟩ x (u :: l) = (apartV x (Slots.get sl u) = true ∧ apAll ⟨sl, own, h⟩ x l) := rfl
theorem apAll_iff (s : St) (x : AV) : ∀ l, apAll s x l = ∀ u ∈ l, apartV x (Slots.get s.sl u) = true
  | [] => by simp [apAll]
  | u :: l => by simp [apAll, apAll_iff s x l]
def nilV : AV → Option AV
  | .ptr i p t => some (.ptr i p t)
  | _ => none
@[go_sem] theorem nilV_ptr (i : Id) (p : List Nat) (t : Ty) : nilV (.ptr i p t) = some (.ptr i p t) := rfl
@[go_sem] theorem W_loadr {d : Option Nat} {u : Nat} {t : Ty} {x : Opd} {s : St} : W T cx (.ops (⟨d, .load false (some u) t x, none⟩ :: r) kill :: k) s Q =
    (intoV (s.opd x) (Slots.get s.sl u) = true ∧ W1 T cx (ldV t (s.opd x) (s.rd cx)) d r kill k s Q) := by
  rw [W_op rfl, evOp]
  simp only [evK]
  cases hx : s.opd x <;> simp only [intoV, ldV, rooted, Bool.false_eq_true, false_implies, true_and, and_true, false_and] <;> try rfl
  rename_i i p t'
  by_cases h1 : (Slots.get s.sl u).into i = true
  · have h1' : (s.opd (.s u)).into i = true := h1
    simp only [h1, h1', and_true, true_and]
    by_cases ht : t = t'
    · simp only [ht, if_true, St.rd]
      cases (s.look cx i).bind fun b => b.val.at p with
      | none => rfl
      | some v => by_cases hf : t'.fits v = true <;> simp [hf, onO, applyEff, W1]
    · simp only [ht, if_false]; rfl
  · have h1' : ¬(s.opd (.s u)).into i = true := h1
    simp only [h1, h1', and_false, false_and, if_false, Bool.false_eq_true, onO, W1]
@[go_sem] theorem W_nilck {d : Option Nat} {x : Opd} {s : St} : W T cx (.ops (⟨d, .nilck x, none⟩ :: r) kill :: k) s Q = W1 T cx (nilV (s.opd x)) d r kill k s Q :=
  W_val rfl (by simp only [evK, nilV]; split <;> simp_all)
def fldV (st : Ty) (i : Nat) (ft : Ty) (x : AV) : Option AV := match x with
  | .ptr j p t => if t = st ∧ st.field i = some ft then some (.ptr j (p ++ [i]) ft) else none
  | _ => none
@[go_sem] theorem fldV_ptr (st : Ty) (i : Nat) (ft : Ty) (j : Id) (p : List Nat) : fldV st i ft (.ptr j p st) = if st.field i = some ft then some (.ptr j (p ++ [i]) ft) else none := by simp [fldV]
@[go_sem] theorem W_fld {d : Option Nat} {i : Nat} {st ft : Ty} {x : Opd} {s : St} : W T cx (.ops (⟨d, .fld st i ft x, none⟩ :: r) kill :: k) s Q = W1 T cx (fldV st i ft (s.opd x)) d r kill k s Q :=
  W_val rfl (by simp only [evK, fldV]; cases s.opd x <;> simp only [Option.map_none] <;> split <;> rfl)
def idxV (n : Nat) (t : Ty) (x i : AV) : Option AV := match x, toIx i with
  | .ptr j p t', some z => if t' = .arr n t ∧ 0 ≤ z ∧ z < (n : Int) then some (.ptr j (p ++ [z.toNat]) t) else none
  | _, _ => none
@[go_sem] theorem idxV_nat {n : Nat} {t : Ty} {j : Id} {p : List Nat} {k : IntKind} {m : Nat} (hm : m < n) : idxV n t (.ptr j p (.arr n t)) (.int k (m : Int)) = some (.ptr j (p ++ [m]) t) := by
  simp only [idxV, toIx]; rw [if_pos ⟨trivial, by omega, by omega⟩]; rfl
@[go_sem] theorem idxV_int {n : Nat} {t : Ty} {j : Id} {p : List Nat} {k : IntKind} {z : Int} (h0 : 0 ≤ z) (hm : z < n) : idxV n t (.ptr j p (.arr n t)) (.int k z) = some (.ptr j (p ++ [z.toNat]) t) := by
  simp only [idxV, toIx]; rw [if_pos ⟨trivial, by omega, by omega⟩]
@[go_sem] theorem W_idx {d : Option Nat} {n : Nat} {t : Ty} {x i : Opd} {s : St} : W T cx (.ops (⟨d, .idx n t x i, none⟩ :: r) kill :: k) s Q = W1 T cx (idxV n t (s.opd x) (s.opd i)) d r kill k s Q :=
  W_val rfl (by
    simp only [evK, idxV]
    cases s.opd x <;> try rfl
    cases toIx (s.opd i) <;> try rfl
    simp only
    split <;> rfl)
def aidxV (n : Nat) (t : Ty) (x i : AV) : Option AV := match x, toIx i with
  | .arr m f, some z => if h : 0 ≤ z ∧ z < (m : Int) then if (Ty.arr n t).fits (.arr m f) then some (f ⟨z.toNat, by omega⟩) else none else none
  | _, _ => none
@[go_sem] theorem aidxV_nat {n : Nat} {t : Ty} {f : Fin n → AV} {k : IntKind} {m : Nat} (hm : m < n) (hf : (Ty.arr n t).fits (.arr n f) = true) : aidxV n t (.arr n f) (.int k (m : Int)) = some (f ⟨m, hm⟩) := by
  simp only [aidxV, toIx]; rw [dif_pos ⟨by omega, by omega⟩, if_pos hf]; rfl
@[go_sem] theorem W_aidx {d : Option Nat} {n : Nat} {t : Ty} {x i : Opd} {s : St} : W T cx (.ops (⟨d, .aidx n t x i, none⟩ :: r) kill :: k) s Q = W1 T cx (aidxV n t (s.opd x) (s.opd i)) d r kill k s Q :=
  W_val rfl (by
    simp only [evK, aidxV]
    cases s.opd x <;> try rfl
    cases toIx (s.opd i) <;> try rfl
    simp only
    split <;> try rfl
    split <;> rfl)
def stridxV (x i : AV) : Option AV := match x, toIx i with
  | .str b, some z => if 0 ≤ z then (b[z.toNat]?).map fun c => .int .u8 c.toNat else none
  | _, _ => none
@[go_sem] theorem W_stridx {d : Option Nat} {x i : Opd} {s : St} : W T cx (.ops (⟨d, .stridx x i, none⟩ :: r) kill :: k) s Q = W1 T cx (stridxV (s.opd x) (s.opd i)) d r kill k s Q :=
  W_val rfl (by
    simp only [evK, stridxV]
    cases s.opd x <;> try rfl
    cases toIx (s.opd i) <;> try rfl
    simp only
    split <;> simp [Function.comp_def])
def fieldV (t : Ty) (x : AV) (i : Nat) : Option AV := if t.fits x then x.field i else none
@[go_sem] theorem W_field {d : Option Nat} {t : Ty} {x : Opd} {i : Nat} {s : St} : W T cx (.ops (⟨d, .field t x i, none⟩ :: r) kill :: k) s Q = W1 T cx (fieldV t (s.opd x) i) d r kill k s Q :=
  W_val rfl (by simp only [evK, fieldV]; split <;> simp)
def extV (x : AV) (i : Nat) : Option AV := match x with
  | .tup v => match v.field i with
    | some u => if u.safe then some u else none
    | none => none
  | _ => none
@[go_sem] theorem W_ext {d : Option Nat} {x : Opd} {i : Nat} {s : St} : W T cx (.ops (⟨d, .ext x i, none⟩ :: r) kill :: k) s Q = W1 T cx (extV (s.opd x) i) d r kill k s Q :=
  W_val rfl (by
    simp only [evK, extV]
    cases s.opd x <;> try rfl
    rename_i w
    simp only
    cases w.field i with
    | none => rfl
    | some u => by_cases hu : u.safe = true <;> simp [hu])
def convV (k : IntKind) (x : AV) : Option AV := match x with | .int _ n => some (.int k (k.wrap n)) | _ => none
@[go_sem] theorem convV_int (k k' : IntKind) (n : Int) : convV k (.int k' n) = some (.int k (k.wrap n)) := rfl
@[go_sem] theorem W_conv {d : Option Nat} {kk : IntKind} {x : Opd} {s : St} : W T cx (.ops (⟨d, .conv kk x, none⟩ :: r) kill :: k) s Q = W1 T cx (convV kk (s.opd x)) d r kill k s Q :=
  W_val rfl (by simp only [evK, convV]; cases s.opd x <;> rfl)
def lenV (str : Bool) (x : AV) : Option AV := match str, x with
  | true, .str b => some (.int .i64 b.size)
  | false, .nilsl => some (.int .i64 0)
  | false, .sl _ _ n => some (.int .i64 n)
  | false, .slz => some (.int .i64 0)
  | _, _ => none
@[go_sem] theorem lenV_str (b : ByteArray) : lenV true (.str b) = some (.int .i64 b.size) := rfl
@[go_sem] theorem lenV_nil : lenV false .nilsl = some (.int .i64 0) := rfl
@[go_sem] theorem lenV_slz : lenV false .slz = some (.int .i64 0) := rfl
@[go_sem] theorem lenV_sl (i : Id) (o n : Nat) : lenV false (.sl i o n) = some (.int .i64 n) := rfl
@[go_sem] theorem W_len {d : Option Nat} {b : Bool} {x : Opd} {s : St} : W T cx (.ops (⟨d, .len b x, none⟩ :: r) kill :: k) s Q = W1 T cx (lenV b (s.opd x)) d r kill k s Q :=
  W_val rfl (by simp only [evK, lenV]; cases b <;> cases s.opd x <;> rfl)
def minV (x y : AV) : Option AV := match x, y with
  | .int k a, .int k' b => if k = k' then some (.int k (if b < a then b else a)) else none
  | _, _ => none
@[go_sem] theorem W_min {d : Option Nat} {x y : Opd} {s : St} : W T cx (.ops (⟨d, .min x y, none⟩ :: r) kill :: k) s Q = W1 T cx (minV (s.opd x) (s.opd y)) d r kill k s Q :=
  W_val rfl (by simp only [evK, minV]; cases s.opd x <;> try rfl
                cases s.opd y <;> try rfl
                simp only; split <;> rfl)
def maxV (x y : AV) : Option AV := match x, y with
  | .int k a, .int k' b => if k = k' then some (.int k (if a < b then b else a)) else none
  | _, _ => none
@[go_sem] theorem W_max {d : Option Nat} {x y : Opd} {s : St} : W T cx (.ops (⟨d, .max x y, none⟩ :: r) kill :: k) s Q = W1 T cx (maxV (s.opd x) (s.opd y)) d r kill k s Q :=
  W_val rfl (by simp only [evK, maxV]; cases s.opd x <;> try rfl
                cases s.opd y <;> try rfl
                simp only; split <;> rfl)
def HP.wr (h : HP) (i : Id) (p : List Nat) (v : AV) : HP := match h.look i with
  | some b => match b.val.put p v with
    | some u => h.set i ⟨b.ty, u⟩
    | none => h
  | none => h
def stV (cx : Cx) (t : Ty) (x v : AV) (s : St) : Option St := match x with
  | .ptr i p t' => if t = t' ∧ t.fits v = true then match s.look cx i with
      | some b => match b.val.put p v with
        | some u => s.write cx i ⟨b.ty, u⟩
        | none => none
      | none => none
    else none
  | _ => none
@[go_sem] theorem W_store {t : Ty} {x v : Opd} {s : St} : W T cx (.ops (⟨none, .store t [] x v, none⟩ :: r) kill :: k) s Q = W2 T cx (stV cx t (s.opd x) (s.opd v) s) r kill k Q := by
  rw [W_op rfl, evOp]
  simp only [evK, List.all_nil, and_true]
  cases s.opd x <;> simp only [stV] <;> try rfl
  rename_i i p t'
  by_cases hc : t = t' ∧ t.fits (s.opd v) = true
  · rw [if_pos hc, if_pos hc]
    cases s.look cx i with
    | none => rfl
    | some b =>
      simp only
      cases b.val.put p (s.opd v) with
      | none => rfl
      | some u =>
        simp only [applyEff]
        cases s.write cx i ⟨b.ty, u⟩ <;> rfl
  · rw [if_neg hc, if_neg hc]; rfl
@[go_sem] theorem W_storea {t : Ty} {a : Nat} {ap : List Nat} {x v : Opd} {s : St} : W T cx (.ops (⟨none, .store t (a :: ap) x v, none⟩ :: r) kill :: k) s Q =
    (apAll s (s.opd x) (a :: ap) ∧ W2 T cx (stV cx t (s.opd x) (s.opd v) s) r kill k Q) := by
  rw [W_op rfl, evOp, apAll_iff]
  simp only [evK]
  cases hx : s.opd x <;> simp only [apartV, stV, W2, onO, and_false] <;> try rfl
  rename_i i p t'
  by_cases ha : ((a :: ap).all fun u => (s.opd (.s u)).apart i) = true
  · have ha' : ∀ u ∈ a :: ap, (Slots.get s.sl u).apart i = true := by simpa [List.all_eq_true, St.opd] using ha
    simp only [ha, and_true]
    rw [eq_true ha', true_and]
    by_cases hc : t = t' ∧ t.fits (s.opd v) = true
    · rw [if_pos hc, if_pos hc]
      cases s.look cx i with
      | none => rfl
      | some b =>
        simp only
        cases b.val.put p (s.opd v) with
        | none => rfl
        | some u =>
          simp only [applyEff]
          cases s.write cx i ⟨b.ty, u⟩ <;> rfl
    · rw [if_neg hc, if_neg hc]
  · have ha' : ¬∀ u ∈ a :: ap, (Slots.get s.sl u).apart i = true := by simpa [List.all_eq_true, St.opd] using ha
    rw [eq_false ha', false_and]
    simp only [ha, Bool.false_eq_true, and_false, if_false]
def ownW (own : Own) (d : Nat) (p : List Nat) (v : AV) : Option Own := match own.get d with
  | some b => match b.val.put p v with
    | some u => some (own.set d ⟨b.ty, u⟩)
    | none => none
  | none => none
@[go_sem] theorem stV_own {t : Ty} {d : Nat} {p : List Nat} {v : AV} : stV cx t (.ptr (.stk cx.lvl d) p t) v ⟨sl, own, h⟩ = if t.fits v = true then (ownW own d p v).map fun o => ⟨sl, o, h⟩ else none := by
  simp only [stV, true_and, St.look, Id.own, if_true, St.write, ownW]
  split <;> try rfl
  cases own.get d with
  | none => rfl
  | some b =>
    simp only
    cases b.val.put p v <;> rfl
end
end Go.Mini

namespace Go.Mini
set_option linter.unusedSimpArgs false
set_option linter.unusedVariables false
section
variable {T : Nat → Option MFun} {cx : Cx} {k : List Item} {kill : List Nat} {r : List MOp} {sl : Slots} {own : Own} {h : HP} {Q : St → Prop}
@[go_sem] theorem get_nil (u : Nat) : Slots.get [] u = .bot := rfl
@[go_sem] theorem get_cons (t u : Nat) (v : AV) (s : Slots) : Slots.get ((t, v) :: s) u = if t = u then v else Slots.get s u := rfl
@[go_sem] theorem set_nil (u : Nat) (x : AV) : Slots.set [] u x = [(u, x)] := rfl
@[go_sem] theorem set_cons (t u : Nat) (v x : AV) (s : Slots) : Slots.set ((t, v) :: s) u x = if t = u then (u, x) :: s else if u < t then (u, x) :: (t, v) :: s else (t, v) :: Slots.set s u x := rfl
@[go_sem] theorem oget_nil (u : Nat) : Own.get [] u = none := rfl
@[go_sem] theorem oget_cons (t u : Nat) (v : Blk) (s : Own) : Own.get ((t, v) :: s) u = if t = u then some v else Own.get s u := rfl
@[go_sem] theorem oset_nil (u : Nat) (x : Blk) : Own.set [] u x = [(u, x)] := rfl
@[go_sem] theorem oset_cons (t u : Nat) (v x : Blk) (s : Own) : Own.set ((t, v) :: s) u x = if t = u then (u, x) :: s else if u < t then (u, x) :: (t, v) :: s else (t, v) :: Own.set s u x := rfl
@[go_sem] theorem has_nil (t : Nat) : has [] t = false := rfl
@[go_sem] theorem has_cons (a t : Nat) (l : List Nat) : has (a :: l) t = (a == t || has l t) := rfl
@[go_sem] theorem without_nil (l : List Nat) : Slots.without [] l = [] := rfl
@[go_sem] theorem without_cons (t : Nat) (v : AV) (s : Slots) (l : List Nat) : Slots.without ((t, v) :: s) l = if has l t = true then Slots.without s l else (t, v) :: Slots.without s l := rfl
@[go_sem] theorem only_nil (l : List Nat) : Slots.only [] l = [] := rfl
@[go_sem] theorem only_cons (t : Nat) (v : AV) (s : Slots) (l : List Nat) : Slots.only ((t, v) :: s) l = if has l t = true then (t, v) :: Slots.only s l else Slots.only s l := rfl
@[go_sem] theorem oonly_nil (l : List Nat) : Own.only [] l = [] := rfl
@[go_sem] theorem oonly_cons (t : Nat) (v : Blk) (s : Own) (l : List Nat) : Own.only ((t, v) :: s) l = if has l t = true then (t, v) :: Own.only s l else Own.only s l := rfl
@[go_sem] theorem keep_mk (a b : List Nat) : St.keep ⟨sl, own, h⟩ a b = ⟨sl.only a, own.only b, h⟩ := rfl
@[go_sem] theorem setd_some (d : Nat) (v : AV) : St.setd ⟨sl, own, h⟩ (some d) v = ⟨sl.set d v, own, h⟩ := rfl
@[go_sem] theorem setd_none (v : AV) (s : St) : St.setd s none v = s := rfl
@[go_sem] theorem opd_s (t : Nat) : St.opd ⟨sl, own, h⟩ (.s t) = sl.get t := rfl
@[go_sem] theorem opd_c (v : AV) (s : St) : St.opd s (.c v) = v := rfl
@[go_sem] theorem opd_f (n : Nat) (s : St) : St.opd s (.f n) = .func n .unit := rfl
def fg (v : AV) (i : Id) : AV := if v.leads i then .bot else v
@[go_sem] theorem forget_nil (i : Id) : Slots.forget [] i = [] := rfl
@[go_sem] theorem forget_cons (t : Nat) (v : AV) (s : Slots) (i : Id) : Slots.forget ((t, v) :: s) i = (t, fg v i) :: Slots.forget s i := rfl
@[go_sem] theorem fg_int (k : IntKind) (n : Int) (i : Id) : fg (.int k n) i = .int k n := rfl
@[go_sem] theorem fg_bool (b : Bool) (i : Id) : fg (.bool b) i = .bool b := rfl
@[go_sem] theorem fg_str (b : ByteArray) (i : Id) : fg (.str b) i = .str b := rfl
@[go_sem] theorem fg_arr {n : Nat} (f : Fin n → AV) (i : Id) : fg (.arr n f) i = .arr n f := rfl
@[go_sem] theorem fg_cons (a b : AV) (i : Id) : fg (.cons a b) i = .cons a b := rfl
@[go_sem] theorem fg_tup (a : AV) (i : Id) : fg (.tup a) i = .tup a := rfl
@[go_sem] theorem fg_undef (i : Id) : fg .undef i = .undef := rfl
@[go_sem] theorem fg_bot (i : Id) : fg .bot i = .bot := rfl
@[go_sem] theorem fg_nilp (i : Id) : fg .nilp i = .nilp := rfl
@[go_sem] theorem fg_nilsl (i : Id) : fg .nilsl i = .nilsl := rfl
@[go_sem] theorem fg_ite (c : Prop) [Decidable c] (a b : AV) (i : Id) : fg (if c then a else b) i = if c then fg a i else fg b i := by split <;> rfl
def Id.below : Id → Nat → Prop
  | .stk l' _, l => l' < l
  | _, _ => True
theorem below_own {i : Id} {l : Nat} (h : i.below l) : i.own l = none := by
  cases i <;> simp_all [Id.below, Id.own]
  omega
theorem Id.below.succ {i : Id} {l : Nat} (h : i.below l) : i.below (l + 1) := by
  cases i <;> simp_all [Id.below]
  omega
@[go_sem] theorem below_stk (l t : Nat) : (Id.stk l t).below (l + 1) := by simp [Id.below]
@[go_sem] theorem below_obj (n l : Nat) : (Id.obj n).below l := trivial
@[go_sem] theorem below_arg (n l : Nat) : (Id.arg n).below l := trivial
theorem Id.below.ne {i : Id} {l t : Nat} (h : i.below l) : i ≠ .stk l t := by
  rintro rfl; simp [Id.below] at h
theorem fg_ptr {i : Id} {l t : Nat} (h : i.below l) (p : List Nat) (u : Ty) : fg (.ptr i p u) (.stk l t) = .ptr i p u := by
  have : (Id.stk l t == i) = false := by simpa using fun e : Id.stk l t = i => h.ne e.symm
  simp [fg, AV.leads, AV.isAgg, AV.names, this]
@[go_sem] theorem fg_own (l s t : Nat) (p : List Nat) (u : Ty) : fg (.ptr (.stk l s) p u) (.stk l t) = if t = s then .bot else .ptr (.stk l s) p u := by
  simp only [fg, AV.leads, AV.isAgg, AV.names, Bool.not_false, Bool.true_and, beq_iff_eq, Id.stk.injEq, true_and]
def siteOkK (cx : Cx) (s : St) : Option Nat → Bool
  | some d => (s.own.get d).isNone && s.sl.all fun p => !(p.2.leads (.stk cx.lvl d))
  | none => true
def noLead (l d : Nat) : Slots → Bool
  | [] => true
  | (_, v) :: s => !(v.leads (.stk l d)) && noLead l d s
@[go_sem] theorem noLead_nil (l d : Nat) : noLead l d [] = true := rfl
@[go_sem] theorem noLead_cons (l d t : Nat) (v : AV) (s : Slots) : noLead l d ((t, v) :: s) = (!(v.leads (.stk l d)) && noLead l d s) := rfl
@[go_sem] theorem siteOkK_none (s : St) : siteOkK cx s none = true := rfl
@[go_sem] theorem siteOkK_some (d : Nat) : siteOkK cx ⟨sl, own, h⟩ (some d) = ((own.get d).isNone && noLead cx.lvl d sl) := by
  simp only [siteOkK]; congr 1
  induction sl with
  | nil => rfl
  | cons p r ih => obtain ⟨t, v⟩ := p; simp only [List.all_cons, noLead, ih]
@[go_sem] theorem W_regT {ops : List MOp} {s : St} : W T cx (.code (.reg true ops kill) :: k) s Q = ((ops.map MOp.site).all (siteOkK cx s) = true ∧ W T cx (.ops ops kill :: k) s Q) := by
  have hd : (ops.map MOp.site).all (siteOkK cx s) = drawHead cx s ops := by
    simp only [drawHead, List.all_map]; congr 1
  rw [hd]
  by_cases h1 : drawHead cx s ops = true
  · rw [eq_true h1, true_and]; exact W_iff (by simp [next, h1])
  · rw [eq_false h1, false_and]; exact W_fail (by simp [next, h1])
@[go_sem] theorem leads_int (k : IntKind) (n : Int) (i : Id) : (AV.int k n).leads i = false := rfl
@[go_sem] theorem leads_bool (b : Bool) (i : Id) : (AV.bool b).leads i = false := rfl
@[go_sem] theorem leads_str (b : ByteArray) (i : Id) : (AV.str b).leads i = false := rfl
@[go_sem] theorem leads_arr {n : Nat} (f : Fin n → AV) (i : Id) : (AV.arr n f).leads i = false := rfl
@[go_sem] theorem leads_cons (a b : AV) (i : Id) : (AV.cons a b).leads i = false := rfl
@[go_sem] theorem leads_tup (a : AV) (i : Id) : (AV.tup a).leads i = false := rfl
@[go_sem] theorem leads_bot (i : Id) : AV.bot.leads i = false := rfl
@[go_sem] theorem leads_undef (i : Id) : AV.undef.leads i = false := rfl
@[go_sem] theorem leads_nilp (i : Id) : AV.nilp.leads i = false := rfl
theorem leads_ptr {i : Id} {l t : Nat} (h : i.below l) (p : List Nat) (u : Ty) : (AV.ptr i p u).leads (.stk l t) = false := by
  have : (Id.stk l t == i) = false := by simpa using fun e => h.ne e.symm
  simp [AV.leads, AV.isAgg, AV.names, this]
@[go_sem] theorem leads_own (l s t : Nat) (p : List Nat) (u : Ty) : (AV.ptr (.stk l s) p u).leads (.stk l t) = (t == s) := by
  simp only [AV.leads, AV.isAgg, AV.names, Bool.not_false, Bool.true_and]
  rw [Bool.eq_iff_iff]; simp
attribute [go_sem] MOp.site List.all_cons List.all_nil List.map_cons List.map_nil Option.isNone_none Option.isNone_some Bool.not_false Bool.not_true Bool.and_self Bool.true_and Bool.and_true Bool.or_true Bool.true_or Bool.or_false Bool.false_or Bool.false_and Bool.and_false true_and and_true Nat.reduceEqDiff Nat.reduceLT Nat.reduceBEq Bool.false_eq_true Option.map_some Option.map_none reduceCtorEq eq_self Nat.add_eq Nat.zero_add
attribute [go_sem ↓] reduceIte
@[go_sem] theorem rd_own {d : Nat} {p : List Nat} : St.rd cx ⟨sl, own, h⟩ (.stk cx.lvl d) p = (own.get d).bind fun b => b.val.at p := by
  simp [St.rd, St.look, Id.own]
theorem rd_ext {i : Id} (hi : i.below cx.lvl) {p : List Nat} : St.rd cx ⟨sl, own, h⟩ i p = h.rd i p := by
  simp [St.rd, St.look, below_own hi, HP.rd]
theorem HP.rd_app {h : HP} {i : Id} {p : List Nat} {v : AV} (hv : h.rd i p = some v) (q : List Nat) : h.rd i (p ++ q) = v.at q := by
  have key : ∀ (p : List Nat) (w : AV), w.at p = some v → w.at (p ++ q) = v.at q := by
    intro p
    induction p with
    | nil => intro w hw; simp [AV.at] at hw; subst hw; rfl
    | cons a p ih =>
      intro w hw
      match w, a, hw with
      | .arr n f, i, hw =>
        simp only [AV.at] at hw
        split at hw
        · rename_i hi; simp only [List.cons_append, AV.at, hi, dite_true]; exact ih _ hw
        · simp at hw
      | .cons x y, 0, hw => simp only [AV.at] at hw; simp only [List.cons_append, AV.at]; exact ih _ hw
      | .cons x y, i + 1, hw =>
        simp only [AV.at] at hw
        simp only [List.cons_append, AV.at]
        have : ∀ (j : Nat) (y : AV), y.at (j :: p) = some v → y.at (j :: (p ++ q)) = v.at q := by
          intro j
          induction j with
          | zero => intro y hy; match y, hy with
            | .arr n f, hy =>
              simp only [AV.at] at hy
              split at hy
              · rename_i hi; simp only [AV.at, hi, dite_true]; exact ih _ hy
              · simp at hy
            | .cons c d, hy => simp only [AV.at] at hy ⊢; exact ih _ hy
          | succ j ihj => intro y hy; match y, hy with
            | .arr n f, hy =>
              simp only [AV.at] at hy
              split at hy
              · rename_i hi; simp only [AV.at, hi, dite_true]; exact ih _ hy
              · simp at hy
            | .cons c d, hy => simp only [AV.at] at hy ⊢; exact ihj _ hy
        exact this i y hw
  unfold HP.rd at hv ⊢
  cases hl : h.look i with
  | none => rw [hl] at hv; simp at hv
  | some b => rw [hl] at hv; simp only [Option.bind] at hv ⊢; exact key p b.val hv
attribute [go_sem] Option.bind_some Option.bind_none List.append_assoc List.cons_append List.nil_append List.append_nil
@[go_sem] theorem at_nil (v : AV) : v.at [] = some v := by cases v <;> rfl
@[go_sem] theorem at_arr {n : Nat} {f : Fin n → AV} {i : Nat} (h : i < n) (p : List Nat) : (AV.arr n f).at (i :: p) = (f ⟨i, h⟩).at p := by simp [AV.at, h]
@[go_sem] theorem at_cons0 (a b : AV) (p : List Nat) : (AV.cons a b).at (0 :: p) = a.at p := rfl
@[go_sem] theorem at_cons1 (a b : AV) (i : Nat) (p : List Nat) : (AV.cons a b).at ((i + 1) :: p) = b.at (i :: p) := rfl
@[go_sem] theorem put_nil (v x : AV) : v.put [] x = some x := by cases v <;> rfl
@[go_sem] theorem put_cons0 (a b x : AV) (p : List Nat) : (AV.cons a b).put (0 :: p) x = (a.put p x).map fun y => .cons y b := rfl
@[go_sem] theorem put_cons1 (a b x : AV) (i : Nat) (p : List Nat) : (AV.cons a b).put ((i + 1) :: p) x = (b.put (i :: p) x).map fun y => .cons a y := rfl
@[go_sem] theorem put_arr {n : Nat} {f : Fin n → AV} {i : Nat} (h : i < n) (p : List Nat) (x : AV) : (AV.arr n f).put (i :: p) x = ((f ⟨i, h⟩).put p x).map fun y => .arr n fun j => if j.val = i then y else f j := by simp [AV.put, h]
@[go_sem] theorem ownW_eq (d : Nat) (p : List Nat) (v : AV) : ownW own d p v = (own.get d).bind fun b => (b.val.put p v).map fun u => own.set d ⟨b.ty, u⟩ := by
  simp only [ownW]
  cases own.get d with
  | none => rfl
  | some b => simp only [Option.bind]; cases b.val.put p v <;> rfl
@[go_sem] theorem fits_arrK {n : Nat} {t : Ty} {f : Fin n → AV} : ((Ty.arr n t).fits (.arr n f) = true) = ∀ i, t.fits (f i) = true := by
  simp [Ty.fits]
@[go_sem] theorem fits_cons (a b : Ty) (x y : AV) : ((Ty.cons a b).fits (.cons x y) = true) = (a.fits x = true ∧ b.fits y = true) := by simp [Ty.fits]
@[go_sem] theorem fits_unit : (Ty.unit.fits .unit = true) = True := by simp [Ty.fits]
@[go_sem] theorem fits_int (k : IntKind) (n : Int) : ((Ty.leaf (.int k)).fits (.int k n) = true) = True := by simp [Ty.fits, LK.fits, AV.safe]
@[go_sem] theorem fits_str (s : ByteArray) : ((Ty.leaf .str).fits (.str s) = true) = True := by simp [Ty.fits, LK.fits, AV.safe]
@[go_sem] theorem fits_bool (s : Bool) : ((Ty.leaf .bool).fits (.bool s) = true) = True := by simp [Ty.fits, LK.fits, AV.safe]
@[go_sem] theorem evBin_int (op : BinOp) (k : IntKind) (a b : Int) : evBin op (.int k a) (.int k b) = evInt op k a b := by simp [evBin]
@[go_sem] theorem evInt_eql (k : IntKind) (a b : Int) : evInt .eql k a b = some (.bool (decide (a = b))) := by simp [evInt]; rw [Bool.eq_iff_iff]; simp
@[go_sem] theorem evInt_neq (k : IntKind) (a b : Int) : evInt .neq k a b = some (.bool (!decide (a = b))) := by simp [evInt]; rw [Bool.eq_iff_iff]; simp
@[go_sem] theorem evInt_lss (k : IntKind) (a b : Int) : evInt .lss k a b = some (.bool (decide (a < b))) := rfl
@[go_sem] theorem evInt_leq (k : IntKind) (a b : Int) : evInt .leq k a b = some (.bool (decide (a ≤ b))) := rfl
@[go_sem] theorem evInt_gtr (k : IntKind) (a b : Int) : evInt .gtr k a b = some (.bool (decide (b < a))) := rfl
@[go_sem] theorem evInt_geq (k : IntKind) (a b : Int) : evInt .geq k a b = some (.bool (decide (b ≤ a))) := rfl
@[go_sem] theorem evInt_add (k : IntKind) (a b : Int) : evInt .add k a b = some (.int k (k.wrap (a + b))) := rfl
@[go_sem] theorem evInt_sub (k : IntKind) (a b : Int) : evInt .sub k a b = some (.int k (k.wrap (a - b))) := rfl
@[go_sem] theorem evInt_mul (k : IntKind) (a b : Int) : evInt .mul k a b = some (.int k (k.wrap (a * b))) := rfl
@[go_sem] theorem evBin_str (op : BinOp) (a b : ByteArray) : evBin op (.str a) (.str b) = evStr op a b := rfl
theorem bytes_loop (bs : ByteArray) : ∀ (n i : Nat) (r : List UInt8), bs.size - i = n → i ≤ bs.size → ByteArray.toList.loop bs i r = r.reverse ++ bs.data.toList.drop i := by
  have hlen : bs.data.toList.length = bs.size := Array.length_toList
  intro n
  induction n with
  | zero =>
    intro i r h hi
    have e : i = bs.size := by omega
    subst e
    rw [ByteArray.toList.loop, if_neg (Nat.lt_irrefl _), List.drop_eq_nil_of_le (by omega), List.append_nil]
  | succ n ih =>
    intro i r h hi
    have hlt : i < bs.size := by omega
    rw [ByteArray.toList.loop, if_pos hlt, ih (i + 1) _ (by omega) (by omega)]
    have hl : i < bs.data.toList.length := by omega
    rw [List.drop_eq_getElem_cons hl]
    have hg : bs.get! i = bs.data.toList[i] := by
      cases bs with
      | mk d =>
        have hd : i < d.size := hlt
        simp [ByteArray.get!, hd]
    simp [hg]
theorem bytes_list (bs : ByteArray) : bs.toList = bs.data.toList := by
  unfold ByteArray.toList
  rw [bytes_loop bs bs.size 0 [] (by omega) (by omega)]
  simp
theorem bytes_eq (a b : ByteArray) : (a.toList == b.toList) = decide (a = b) := by
  rw [Bool.eq_iff_iff]
  simp only [beq_iff_eq, decide_eq_true_eq]
  constructor
  · intro h
    rw [bytes_list, bytes_list] at h
    cases a; cases b
    simp only [ByteArray.mk.injEq]
    exact Array.toList_inj.1 h
  · rintro rfl; rfl
@[go_sem] theorem evStr_eql (a b : ByteArray) : evStr .eql a b = some (.bool (decide (a = b))) := by simp only [evStr, bytes_eq]
@[go_sem] theorem evStr_neq (a b : ByteArray) : evStr .neq a b = some (.bool (!decide (a = b))) := by simp only [evStr, bytes_eq]
@[go_sem] theorem evUn_not (b : Bool) : evUn .not (.bool b) = some (.bool !b) := rfl
@[go_sem] theorem wrap64 {n : Int} (h1 : -9223372036854775808 ≤ n) (h2 : n ≤ 9223372036854775807) : IntKind.i64.wrap n = n := by
  have e1 : (IntKind.i64).bits = 64 := rfl
  have e2 : (IntKind.i64).signed = true := rfl
  simp only [IntKind.wrap, e1, e2, Bool.true_and, ge_iff_le, decide_eq_true_eq]
  have p1 : (2 : Int) ^ 64 = 18446744073709551616 := rfl
  have p2 : (2 : Int) ^ (64 - 1) = 9223372036854775808 := rfl
  rw [p1, p2]
  split <;> omega
theorem Ok_eq {fn : MFun} {e : St} {R : AV → HP → Prop} : Ok T cx fn e R = W T cx [.code fn.body] e fun s => onO (results cx s fn.res) fun v => R v s.hp := by
  apply propext
  constructor
  · rintro ⟨n, s', v, hr, hv, hR⟩
    exact ⟨n, s', hr, by simp only [hv]; exact hR⟩
  · rintro ⟨n, s', hr, hq⟩
    cases hv : results cx s' fn.res with
    | none => rw [hv] at hq; exact hq.elim
    | some v => rw [hv] at hq; exact ⟨n, s', v, hr, hv, hq⟩
theorem Ok.mono {fn : MFun} {e : St} {R R' : AV → HP → Prop} (h : Ok T cx fn e R) (hr : ∀ v h', R v h' → R' v h') : Ok T cx fn e R' := by
  obtain ⟨n, s', v, h1, h2, h3⟩ := h; exact ⟨n, s', v, h1, h2, hr _ _ h3⟩
theorem W_callr {prot : Bool} {hide : List Nat} {f : Nat} {args : List Opd} {d : Option Nat} {fn : MFun} {R : AV → HP → Prop} (hf : T f = some fn) (hp : fn.params = args.length ∧ fn.nfree = 0)
    (hc : Ok T (St.callCx ⟨sl, own, h⟩ cx prot) fn (St.enter (args.map (St.opd ⟨sl, own, h⟩)) (h.push cx.lvl (own.veil hide))) R)
    (hq : ∀ v h', R v h' → W T cx (.ops r kill :: k) ((St.pop ⟨sl, own, h⟩ cx.lvl hide h').setd d v) Q) :
    W T cx (.ops (⟨d, .call prot hide f args, none⟩ :: r) kill :: k) ⟨sl, own, h⟩ Q := by
  refine W_call (R := R) (cx' := St.callCx ⟨sl, own, h⟩ cx prot) (hide := hide) (e := St.enter (args.map (St.opd ⟨sl, own, h⟩)) (h.push cx.lvl (own.veil hide))) (fn := fn) (d := d) (k1 := .ops r kill :: k) (s1 := ⟨sl, own, h⟩) ?_ hc hq
  simp only [next, St.wanted, opCmd, enterCmd, hf]
  rw [if_pos (by simpa using hp)]
  simp
@[go_sem] theorem veil_nil : own.veil [] = own := rfl
@[go_sem] theorem callCx_lvl (s : St) (p : Bool) : (s.callCx cx p).lvl = cx.lvl + 1 := rfl
theorem HP.push_rd_own {d : Nat} {p : List Nat} : (h.push cx.lvl own).rd (.stk cx.lvl d) p = (own.get d).bind fun b => b.val.at p := by
  simp [HP.rd, HP.look, HP.push]
theorem HP.push_rd_ext {i : Id} (hi : i.below cx.lvl) {p : List Nat} : (h.push cx.lvl own).rd i p = h.rd i p := by
  cases i <;> simp only [HP.rd, HP.look, HP.push]
  simp only [Id.below] at hi
  rw [if_neg (by omega)]
theorem pop_push : St.pop ⟨sl, own, h⟩ cx.lvl [] (h.push cx.lvl own) = ⟨sl, own, h⟩ := by
  simp only [St.pop, HP.pop, HP.push, Own.unveil, if_true]
  congr 1
  cases h
  simp only [HP.mk.injEq, and_true]
  funext l
  by_cases hl : l = cx.lvl <;> simp [hl]
theorem W_callp {prot : Bool} {f : Nat} {args : List Opd} {d : Option Nat} {fn : MFun} {v : AV} (hf : T f = some fn) (hp : fn.params = args.length ∧ fn.nfree = 0)
    (hc : Ok T (St.callCx ⟨sl, own, h⟩ cx prot) fn (St.enter (args.map (St.opd ⟨sl, own, h⟩)) (h.push cx.lvl own)) fun v' h' => v' = v ∧ h' = h.push cx.lvl own)
    (hq : W T cx (.ops r kill :: k) (St.setd ⟨sl, own, h⟩ d v) Q) :
    W T cx (.ops (⟨d, .call prot [] f args, none⟩ :: r) kill :: k) ⟨sl, own, h⟩ Q := by
  refine W_callr hf hp hc ?_
  rintro v h' ⟨rfl, rfl⟩
  rw [pop_push]; exact hq
@[go_sem] theorem results_tmp {t : Nat} : results cx ⟨sl, own, h⟩ [.tmp t] = if (sl.get t).safe = true then some (sl.get t) else none := rfl
@[go_sem] theorem safe_int (k : IntKind) (n : Int) : (AV.int k n).safe = true := rfl
@[go_sem] theorem safe_bool (b : Bool) : (AV.bool b).safe = true := rfl
@[go_sem] theorem safe_str (b : ByteArray) : (AV.str b).safe = true := rfl
def cellV (cx : Cx) (s : St) (t : AV) (ty : Ty) : Option AV := match t with
  | .ptr i [] t' => if ty = t' then (s.look cx i).bind fun b => if b.ty = ty ∧ (b.val.isAgg || b.val.safe) = true then some b.val else none else none
  | _ => none
@[go_sem] theorem results_cell {t : Nat} {ty : Ty} : results cx ⟨sl, own, h⟩ [.cell t ty] = cellV cx ⟨sl, own, h⟩ (sl.get t) ty := rfl
@[go_sem] theorem cellV_own {d : Nat} {ty : Ty} : cellV cx ⟨sl, own, h⟩ (.ptr (.stk cx.lvl d) [] ty) ty = (own.get d).bind fun b => if b.ty = ty ∧ (b.val.isAgg || b.val.safe) = true then some b.val else none := by
  simp [cellV, St.look, Id.own]
end
end Go.Mini

namespace Go.Mini
set_option linter.unusedSimpArgs false
set_option linter.unusedVariables false
abbrev Str := ByteArray
structure Ent where
  name : Str
  ino : Int
  stamp : Int
  deriving DecidableEq
structure Ino where
  live : Bool
  stamp : Int
  links : Int
  part : Vector Int 2
  deriving DecidableEq
structure Dat where
  of : Int
  text : Str
  deriving DecidableEq
structure Img where
  inode : Vector Ino 8
  dir : Vector (Vector Ent 4) 3
  data : Vector Dat 9
  deriving DecidableEq
def encV {α : Type} {n : Nat} (f : α → AV) (v : Vector α n) : AV := .arr n fun i => f v[i]
def setV {α : Type} {n : Nat} (f : α → AV) (v : Vector α n) (i : Nat) (y : AV) : AV := .arr n fun j => if j.val = i then y else f v[j]
def Ent.enc (e : Ent) : AV := .cons (.str e.name) (.cons (.int .i64 e.ino) (.cons (.int .i64 e.stamp) .unit))
def Ino.enc (e : Ino) : AV := .cons (.bool e.live) (.cons (.int .i64 e.stamp) (.cons (.int .i64 e.links) (.cons (encV (AV.int .i64) e.part) .unit)))
def Dat.enc (e : Dat) : AV := .cons (.int .i64 e.of) (.cons (.str e.text) .unit)
def Img.enc (e : Img) : AV := .cons (encV Ino.enc e.inode) (.cons (encV (encV Ent.enc) e.dir) (.cons (encV Dat.enc e.data) .unit))
section
variable {α : Type} {n : Nat} {f : α → AV} {v w : Vector α n}
@[go_sem] theorem at_encV {i : Nat} (h : i < n) (p : List Nat) : (encV f v).at (i :: p) = (f v[i]).at p := by simp [encV, AV.at, h]
@[go_sem] theorem put_encV {i : Nat} (h : i < n) (p : List Nat) (x : AV) : (encV f v).put (i :: p) x = ((f v[i]).put p x).map (setV f v i) := by
  simp [encV, AV.put, h]; rfl
@[go_sem] theorem setV_f {i : Nat} (h : i < n) (y : α) : setV f v i (f y) = encV f (v.set i y) := by
  simp only [setV, encV]
  congr 1; funext j
  simp only [Fin.getElem_fin, Vector.getElem_set]
  by_cases hj : j.val = i
  · simp [hj]
  · have hj' : ¬i = j.val := fun e => hj e.symm
    simp [hj, hj']
@[go_sem] theorem fg_encV (i : Id) : fg (encV f v) i = encV f v := rfl
@[go_sem] theorem leads_encV (i : Id) : (encV f v).leads i = false := rfl
@[go_sem] theorem isAgg_encV : (encV f v).isAgg = true := rfl
theorem fits_encV {t : Ty} (h : ∀ x, t.fits (f x) = true) : (Ty.arr n t).fits (encV f v) = true := by
  simp [encV, Ty.fits, h]
theorem andEq_dec (p q : Prop) [Decidable p] [Decidable q] : andEq (some (decide p)) (some (decide q)) = some (decide (p ∧ q)) := by
  by_cases hp : p <;> simp [hp, andEq]
theorem eq_encV [DecidableEq α] (hf : ∀ x y, (f x).eq (f y) = some (decide (x = y))) : (encV f v).eq (encV f w) = some (decide (v = w)) := by
  simp only [encV, AV.eq, dite_true]
  have key : ∀ l : List (Fin n), l.foldr (fun i acc => andEq ((f v[i]).eq (f w[i])) acc) (some true) = some (decide (∀ i ∈ l, v[i] = w[i])) := by
    intro l
    induction l with
    | nil => simp
    | cons a l ih =>
      rw [List.foldr_cons, ih, hf, andEq_dec]
      congr 1
      rw [decide_eq_decide]
      exact (List.forall_mem_cons (p := fun i => v[i] = w[i])).symm
  refine (key (List.finRange n)).trans ?_
  congr 1
  rw [decide_eq_decide]
  constructor
  · intro h; ext i hi; exact h ⟨i, hi⟩ (List.mem_finRange _)
  · rintro rfl i _; rfl
end
@[go_sem] theorem aidxV_encV {α : Type} {f : α → AV} {n : Nat} {t : Ty} {v : Vector α n} {k : IntKind} {m : Nat} (hm : m < n) : aidxV n t (encV f v) (.int k (m : Int)) = if (Ty.arr n t).fits (encV f v) = true then some (f v[m]) else none := by
  simp only [encV, aidxV, toIx]
  rw [dif_pos ⟨by omega, by omega⟩]
  rfl
@[go_sem] theorem at_ent0 (e : Ent) : e.enc.at [0] = some (.str e.name) := rfl
@[go_sem] theorem at_ent1 (e : Ent) : e.enc.at [1] = some (.int .i64 e.ino) := rfl
@[go_sem] theorem at_ent2 (e : Ent) : e.enc.at [2] = some (.int .i64 e.stamp) := rfl
@[go_sem] theorem at_ino0 (e : Ino) : e.enc.at [0] = some (.bool e.live) := rfl
@[go_sem] theorem at_ino1 (e : Ino) : e.enc.at [1] = some (.int .i64 e.stamp) := rfl
@[go_sem] theorem at_ino2 (e : Ino) : e.enc.at [2] = some (.int .i64 e.links) := rfl
@[go_sem] theorem at_ino3 (e : Ino) (p : List Nat) : e.enc.at (3 :: p) = (encV (AV.int .i64) e.part).at p := rfl
@[go_sem] theorem at_dat0 (e : Dat) : e.enc.at [0] = some (.int .i64 e.of) := rfl
@[go_sem] theorem at_dat1 (e : Dat) : e.enc.at [1] = some (.str e.text) := rfl
@[go_sem] theorem at_img0 (e : Img) (p : List Nat) : e.enc.at (0 :: p) = (encV Ino.enc e.inode).at p := rfl
@[go_sem] theorem at_img1 (e : Img) (p : List Nat) : e.enc.at (1 :: p) = (encV (encV Ent.enc) e.dir).at p := rfl
@[go_sem] theorem at_img2 (e : Img) (p : List Nat) : e.enc.at (2 :: p) = (encV Dat.enc e.data).at p := rfl
@[go_sem] theorem put_ent0 (e : Ent) (s : Str) : e.enc.put [0] (.str s) = some (Ent.enc { e with name := s }) := rfl
@[go_sem] theorem put_ent1 (e : Ent) (n : Int) : e.enc.put [1] (.int .i64 n) = some (Ent.enc { e with ino := n }) := rfl
@[go_sem] theorem put_ent2 (e : Ent) (n : Int) : e.enc.put [2] (.int .i64 n) = some (Ent.enc { e with stamp := n }) := rfl
@[go_sem] theorem put_ino0 (e : Ino) (b : Bool) : e.enc.put [0] (.bool b) = some (Ino.enc { e with live := b }) := rfl
@[go_sem] theorem put_ino1 (e : Ino) (n : Int) : e.enc.put [1] (.int .i64 n) = some (Ino.enc { e with stamp := n }) := rfl
@[go_sem] theorem put_ino2 (e : Ino) (n : Int) : e.enc.put [2] (.int .i64 n) = some (Ino.enc { e with links := n }) := rfl
@[go_sem] theorem put_ino3 (e : Ino) {i : Nat} (h : i < 2) (n : Int) : e.enc.put [3, i] (.int .i64 n) = some (Ino.enc { e with part := e.part.set i n }) := by
  have key : (encV (AV.int .i64) e.part).put [i] (.int .i64 n) = some (encV (AV.int .i64) (e.part.set i n)) := by
    rw [put_encV h, put_nil, Option.map_some, setV_f h]
  show ((((((encV (AV.int .i64) e.part).put [i] (.int .i64 n)).map fun y => AV.cons y .unit).map fun y => AV.cons (.int .i64 e.links) y).map fun y => AV.cons (.int .i64 e.stamp) y).map fun y => AV.cons (.bool e.live) y) = _
  rw [key]; rfl
@[go_sem] theorem put_dat0 (e : Dat) (n : Int) : e.enc.put [0] (.int .i64 n) = some (Dat.enc { e with of := n }) := rfl
@[go_sem] theorem put_dat1 (e : Dat) (s : Str) : e.enc.put [1] (.str s) = some (Dat.enc { e with text := s }) := rfl
@[go_sem] theorem put_img0 (e : Img) {i : Nat} (h : i < 8) (p : List Nat) (x : AV) : e.enc.put (0 :: i :: p) x = (e.inode[i].enc.put p x).map fun y => .cons (setV Ino.enc e.inode i y) (.cons (encV (encV Ent.enc) e.dir) (.cons (encV Dat.enc e.data) .unit)) := by
  simp only [Img.enc]
  rw [put_cons0, put_encV h, Option.map_map]; rfl
@[go_sem] theorem img_ino (e : Img) {i : Nat} (h : i < 8) (y : Ino) : AV.cons (setV Ino.enc e.inode i y.enc) (.cons (encV (encV Ent.enc) e.dir) (.cons (encV Dat.enc e.data) .unit)) = Img.enc { e with inode := e.inode.set i y } := by
  rw [setV_f h]; rfl
@[go_sem] theorem put_img2 (e : Img) {i : Nat} (h : i < 9) (p : List Nat) (x : AV) : e.enc.put (2 :: i :: p) x = (e.data[i].enc.put p x).map fun y => .cons (encV Ino.enc e.inode) (.cons (encV (encV Ent.enc) e.dir) (.cons (setV Dat.enc e.data i y) .unit)) := by
  have key := put_encV (f := Dat.enc) (v := e.data) h p x
  show ((((encV Dat.enc e.data).put (i :: p) x).map fun y => AV.cons y .unit).map fun y => AV.cons (encV (encV Ent.enc) e.dir) y).map (fun y => AV.cons (encV Ino.enc e.inode) y) = _
  rw [key]
  cases e.data[i].enc.put p x <;> rfl
@[go_sem] theorem img_dat (e : Img) {i : Nat} (h : i < 9) (y : Dat) : AV.cons (encV Ino.enc e.inode) (.cons (encV (encV Ent.enc) e.dir) (.cons (setV Dat.enc e.data i y.enc) .unit)) = Img.enc { e with data := e.data.set i y } := by
  rw [setV_f h]; rfl
@[go_sem] theorem put_img1 (e : Img) {i j : Nat} (h : i < 3) (hj : j < 4) (p : List Nat) (x : AV) : e.enc.put (1 :: i :: j :: p) x = (e.dir[i][j].enc.put p x).map fun y => .cons (encV Ino.enc e.inode) (.cons (setV (encV Ent.enc) e.dir i (setV Ent.enc e.dir[i] j y)) (.cons (encV Dat.enc e.data) .unit)) := by
  have key : (encV (encV Ent.enc) e.dir).put (i :: j :: p) x = (e.dir[i][j].enc.put p x).map fun y => setV (encV Ent.enc) e.dir i (setV Ent.enc e.dir[i] j y) := by
    rw [put_encV h, put_encV hj, Option.map_map]; rfl
  show (((encV (encV Ent.enc) e.dir).put (i :: j :: p) x).map fun y => AV.cons y (.cons (encV Dat.enc e.data) .unit)).map (fun y => AV.cons (encV Ino.enc e.inode) y) = _
  rw [key]
  cases e.dir[i][j].enc.put p x <;> rfl
@[go_sem] theorem img_dir (e : Img) {i j : Nat} (h : i < 3) (hj : j < 4) (y : Ent) : AV.cons (encV Ino.enc e.inode) (.cons (setV (encV Ent.enc) e.dir i (setV Ent.enc e.dir[i] j y.enc)) (.cons (encV Dat.enc e.data) .unit)) = Img.enc { e with dir := e.dir.set i (e.dir[i].set j y) } := by
  rw [setV_f hj, setV_f h]; rfl
@[go_sem] theorem put_img_row (e : Img) {i : Nat} (h : i < 3) (y : Vector Ent 4) : e.enc.put [1, i] (encV Ent.enc y) = some (Img.enc { e with dir := e.dir.set i y }) := by
  have key : (encV (encV Ent.enc) e.dir).put [i] (encV Ent.enc y) = some (encV (encV Ent.enc) (e.dir.set i y)) := by
    rw [put_encV h, put_nil, Option.map_some, setV_f h]
  show (((encV (encV Ent.enc) e.dir).put [i] (encV Ent.enc y)).map fun y => AV.cons y (.cons (encV Dat.enc e.data) .unit)).map (fun y => AV.cons (encV Ino.enc e.inode) y) = _
  rw [key]; rfl
theorem fits_ent' (e : Ent) : tEntry.fits e.enc = true := rfl
theorem fits_ino' (e : Ino) : tInode.fits e.enc = true := rfl
theorem fits_dat' (e : Dat) : tData.fits e.enc = true := rfl
theorem fits_row' (v : Vector Ent 4) : tRow.fits (encV Ent.enc v) = true := fits_encV fits_ent'
theorem fits_dirs' (v : Vector (Vector Ent 4) 3) : tDirs.fits (encV (encV Ent.enc) v) = true := fits_encV fits_row'
theorem fits_inodes' (v : Vector Ino 8) : tInodes.fits (encV Ino.enc v) = true := fits_encV fits_ino'
theorem fits_datas' (v : Vector Dat 9) : tDatas.fits (encV Dat.enc v) = true := fits_encV fits_dat'
theorem fits_parts' (v : Vector Int 2) : tParts.fits (encV (AV.int .i64) v) = true := fits_encV (t := tI) fun _ => rfl
theorem fits_img' (e : Img) : tImage.fits e.enc = true := by
  show (Ty.cons tInodes (.cons tDirs (.cons tDatas .unit))).fits (AV.cons _ (.cons _ (.cons _ .unit))) = true
  simp only [fits_cons, fits_unit, fits_inodes', fits_dirs', fits_datas', and_self]
@[go_sem] theorem fits_ent (e : Ent) : (tEntry.fits e.enc = true) = True := eq_true (fits_ent' e)
@[go_sem] theorem fits_ino (e : Ino) : (tInode.fits e.enc = true) = True := eq_true (fits_ino' e)
@[go_sem] theorem fits_dat (e : Dat) : (tData.fits e.enc = true) = True := eq_true (fits_dat' e)
@[go_sem] theorem fits_img (e : Img) : (tImage.fits e.enc = true) = True := eq_true (fits_img' e)
@[go_sem] theorem fits_row (v : Vector Ent 4) : (tRow.fits (encV Ent.enc v) = true) = True := eq_true (fits_row' v)
@[go_sem] theorem fits_dirs (v : Vector (Vector Ent 4) 3) : (tDirs.fits (encV (encV Ent.enc) v) = true) = True := eq_true (fits_dirs' v)
@[go_sem] theorem fits_inodes (v : Vector Ino 8) : (tInodes.fits (encV Ino.enc v) = true) = True := eq_true (fits_inodes' v)
@[go_sem] theorem fits_datas (v : Vector Dat 9) : (tDatas.fits (encV Dat.enc v) = true) = True := eq_true (fits_datas' v)
@[go_sem] theorem fits_parts (v : Vector Int 2) : (tParts.fits (encV (AV.int .i64) v) = true) = True := eq_true (fits_parts' v)
@[go_sem] theorem fits_row4 (v : Vector Ent 4) : ((Ty.arr 4 tEntry).fits (encV Ent.enc v) = true) = True := fits_row v
@[go_sem] theorem fits_dirs3 (v : Vector (Vector Ent 4) 3) : ((Ty.arr 3 tRow).fits (encV (encV Ent.enc) v) = true) = True := fits_dirs v
@[go_sem] theorem fits_inodes8 (v : Vector Ino 8) : ((Ty.arr 8 tInode).fits (encV Ino.enc v) = true) = True := fits_inodes v
@[go_sem] theorem fits_datas9 (v : Vector Dat 9) : ((Ty.arr 9 tData).fits (encV Dat.enc v) = true) = True := fits_datas v
@[go_sem] theorem fits_parts2 (v : Vector Int 2) : ((Ty.arr 2 tI).fits (encV (AV.int .i64) v) = true) = True := fits_parts v
@[go_sem] theorem fits_tI (n : Int) : (tI.fits (.int .i64 n) = true) = True := eq_true rfl
@[go_sem] theorem fits_tB (n : Bool) : (tB.fits (.bool n) = true) = True := eq_true rfl
@[go_sem] theorem fits_tS (n : Str) : (tS.fits (.str n) = true) = True := eq_true rfl
@[go_sem] theorem fitO_ite (t : Ty) (v : AV) : fitO t (some v) = if t.fits v = true then some v else none := rfl
@[go_sem] theorem fg_ent (e : Ent) (i : Id) : fg e.enc i = e.enc := rfl
@[go_sem] theorem fg_ino (e : Ino) (i : Id) : fg e.enc i = e.enc := rfl
@[go_sem] theorem fg_dat (e : Dat) (i : Id) : fg e.enc i = e.enc := rfl
@[go_sem] theorem fg_img (e : Img) (i : Id) : fg e.enc i = e.enc := rfl
@[go_sem] theorem leads_ent (e : Ent) (i : Id) : e.enc.leads i = false := rfl
@[go_sem] theorem leads_ino (e : Ino) (i : Id) : e.enc.leads i = false := rfl
@[go_sem] theorem leads_dat (e : Dat) (i : Id) : e.enc.leads i = false := rfl
@[go_sem] theorem leads_img (e : Img) (i : Id) : e.enc.leads i = false := rfl
@[go_sem] theorem isAgg_ent (e : Ent) : e.enc.isAgg = true := rfl
@[go_sem] theorem isAgg_ino (e : Ino) : e.enc.isAgg = true := rfl
@[go_sem] theorem isAgg_dat (e : Dat) : e.enc.isAgg = true := rfl
@[go_sem] theorem isAgg_img (e : Img) : e.enc.isAgg = true := rfl
theorem eq_int (a b : Int) : (AV.int .i64 a).eq (AV.int .i64 b) = some (decide (a = b)) := by
  show some (a == b) = _
  congr 1
theorem eq_str (a b : Str) : (AV.str a).eq (AV.str b) = some (decide (a = b)) := by
  show some (a == b) = _
  congr 1
  cases a with | mk x => cases b with | mk y =>
  rw [Bool.eq_iff_iff, decide_eq_true_eq, ByteArray.mk.injEq]
  show (x == y) = true ↔ _
  exact beq_iff_eq
theorem eq_bool (a b : Bool) : (AV.bool a).eq (AV.bool b) = some (decide (a = b)) := by
  show some (a == b) = _
  congr 1
theorem eq_cons (a b c d : AV) : (AV.cons a b).eq (.cons c d) = andEq (a.eq c) (b.eq d) := rfl
theorem eq_unit : AV.unit.eq .unit = some true := rfl
theorem andEq_tt (p : Prop) [Decidable p] : andEq (some (decide p)) (some true) = some (decide p) := by
  by_cases hp : p <;> simp [hp, andEq]
theorem eq_ent (a b : Ent) : a.enc.eq b.enc = some (decide (a = b)) := by
  simp only [Ent.enc, eq_cons, eq_unit, eq_int, eq_str, andEq_dec, andEq_tt]
  congr 1; rw [decide_eq_decide]; cases a; cases b; simp
theorem eq_dat (a b : Dat) : a.enc.eq b.enc = some (decide (a = b)) := by
  simp only [Dat.enc, eq_cons, eq_unit, eq_int, eq_str, andEq_dec, andEq_tt]
  congr 1; rw [decide_eq_decide]; cases a; cases b; simp
theorem eq_ino (a b : Ino) : a.enc.eq b.enc = some (decide (a = b)) := by
  have h1 : ∀ v w : Vector Int 2, (encV (AV.int .i64) v).eq (encV (AV.int .i64) w) = some (decide (v = w)) := fun v w => eq_encV eq_int
  simp only [Ino.enc]
  simp only [eq_cons, eq_unit, h1, eq_bool, eq_int, andEq_dec, andEq_tt]
  congr 1; rw [decide_eq_decide]; cases a; cases b; simp
theorem eq_row (v w : Vector Ent 4) : (encV Ent.enc v).eq (encV Ent.enc w) = some (decide (v = w)) := eq_encV eq_ent
theorem eq_img (a b : Img) : a.enc.eq b.enc = some (decide (a = b)) := by
  have h1 : ∀ v w : Vector Ino 8, (encV Ino.enc v).eq (encV Ino.enc w) = some (decide (v = w)) := fun v w => eq_encV eq_ino
  have h2 : ∀ v w : Vector (Vector Ent 4) 3, (encV (encV Ent.enc) v).eq (encV (encV Ent.enc) w) = some (decide (v = w)) := fun v w => eq_encV eq_row
  have h3 : ∀ v w : Vector Dat 9, (encV Dat.enc v).eq (encV Dat.enc w) = some (decide (v = w)) := fun v w => eq_encV eq_dat
  simp only [Img.enc]
  simp only [eq_cons, eq_unit, h1, h2, h3, andEq_dec, andEq_tt]
  congr 1; rw [decide_eq_decide]; cases a; cases b; simp
theorem eqV_of {t : Ty} {neg : Bool} {x y : AV} {b : Bool} (hx : t.eqOk x = true) (hy : t.eqOk y = true) (h : x.eq y = some b) : eqV t neg x y = some (.bool (if neg = true then !b else b)) := by
  simp only [eqV, hx, hy, h, Bool.and_self, if_true, Option.map_some]
@[go_sem] theorem eqV_ent (neg : Bool) (a b : Ent) : eqV tEntry neg a.enc b.enc = some (.bool (if neg = true then !decide (a = b) else decide (a = b))) := eqV_of rfl rfl (eq_ent a b)
@[go_sem] theorem eqV_ino (neg : Bool) (a b : Ino) : eqV tInode neg a.enc b.enc = some (.bool (if neg = true then !decide (a = b) else decide (a = b))) := eqV_of rfl rfl (eq_ino a b)
@[go_sem] theorem eqV_dat (neg : Bool) (a b : Dat) : eqV tData neg a.enc b.enc = some (.bool (if neg = true then !decide (a = b) else decide (a = b))) := eqV_of rfl rfl (eq_dat a b)
@[go_sem] theorem eqV_img (neg : Bool) (a b : Img) : eqV tImage neg a.enc b.enc = some (.bool (if neg = true then !decide (a = b) else decide (a = b))) := eqV_of (fits_img' a) (fits_img' b) (eq_img a b)
@[go_sem] theorem eqV_row (neg : Bool) (a b : Vector Ent 4) : eqV tRow neg (encV Ent.enc a) (encV Ent.enc b) = some (.bool (if neg = true then !decide (a = b) else decide (a = b))) := eqV_of (fits_row' a) (fits_row' b) (eq_row a b)
def Ent.zero : Ent := ⟨ByteArray.empty, 0, 0⟩
def Dat.zero : Dat := ⟨0, ByteArray.empty⟩
def Ino.zero : Ino := ⟨false, 0, 0, Vector.replicate 2 0⟩
def Ino.none : Ino := ⟨false, 0, 0, Vector.replicate 2 (-1)⟩
def Img.zero : Img := ⟨Vector.replicate 8 Ino.zero, Vector.replicate 3 (Vector.replicate 4 Ent.zero), Vector.replicate 9 Dat.zero⟩
theorem zero_encV {α : Type} {n : Nat} {f : α → AV} {t : Ty} {a : α} (h : t.zero = f a) : (Ty.arr n t).zero = encV f (Vector.replicate n a) := by
  simp [Ty.zero, encV, h]
@[go_sem] theorem zero_ent : tEntry.zero = Ent.zero.enc := rfl
@[go_sem] theorem zero_dat : tData.zero = Dat.zero.enc := rfl
theorem zero_parts : tParts.zero = encV (AV.int .i64) (Vector.replicate 2 0) := zero_encV (t := tI) rfl
@[go_sem] theorem zero_ino : tInode.zero = Ino.zero.enc := by
  show AV.cons _ (.cons _ (.cons _ (.cons tParts.zero _))) = _
  rw [zero_parts]; rfl
@[go_sem] theorem zero_row : tRow.zero = encV Ent.enc (Vector.replicate 4 Ent.zero) := zero_encV zero_ent
@[go_sem] theorem zero_img : tImage.zero = Img.zero.enc := by
  show AV.cons tInodes.zero (.cons tDirs.zero (.cons tDatas.zero .unit)) = _
  rw [show tInodes.zero = encV Ino.enc (Vector.replicate 8 Ino.zero) from zero_encV zero_ino, show tDirs.zero = encV (encV Ent.enc) (Vector.replicate 3 (Vector.replicate 4 Ent.zero)) from zero_encV zero_row, show tDatas.zero = encV Dat.enc (Vector.replicate 9 Dat.zero) from zero_encV zero_dat]; rfl
@[go_sem] theorem zero_tI : tI.zero = .int .i64 0 := rfl
@[go_sem] theorem zero_tB : tB.zero = .bool false := rfl
@[go_sem] theorem zero_tS : tS.zero = .str ByteArray.empty := rfl
@[go_sem] theorem field_img0 : tImage.field 0 = some tInodes := rfl
@[go_sem] theorem field_img1 : tImage.field 1 = some tDirs := rfl
@[go_sem] theorem field_img2 : tImage.field 2 = some tDatas := rfl
@[go_sem] theorem field_ino0 : tInode.field 0 = some tB := rfl
@[go_sem] theorem field_ino1 : tInode.field 1 = some tI := rfl
@[go_sem] theorem field_ino2 : tInode.field 2 = some tI := rfl
@[go_sem] theorem field_ino3 : tInode.field 3 = some tParts := rfl
@[go_sem] theorem field_ent0 : tEntry.field 0 = some tS := rfl
@[go_sem] theorem field_ent1 : tEntry.field 1 = some tI := rfl
@[go_sem] theorem field_ent2 : tEntry.field 2 = some tI := rfl
@[go_sem] theorem field_dat0 : tData.field 0 = some tI := rfl
@[go_sem] theorem field_dat1 : tData.field 1 = some tS := rfl
@[go_sem] theorem idxV_dirs (j : Id) (p : List Nat) (i : AV) : idxV 3 tRow (.ptr j p tDirs) i = idxV 3 tRow (.ptr j p (.arr 3 tRow)) i := rfl
@[go_sem] theorem idxV_row (j : Id) (p : List Nat) (i : AV) : idxV 4 tEntry (.ptr j p tRow) i = idxV 4 tEntry (.ptr j p (.arr 4 tEntry)) i := rfl
@[go_sem] theorem idxV_inodes (j : Id) (p : List Nat) (i : AV) : idxV 8 tInode (.ptr j p tInodes) i = idxV 8 tInode (.ptr j p (.arr 8 tInode)) i := rfl
@[go_sem] theorem idxV_datas (j : Id) (p : List Nat) (i : AV) : idxV 9 tData (.ptr j p tDatas) i = idxV 9 tData (.ptr j p (.arr 9 tData)) i := rfl
@[go_sem] theorem idxV_parts (j : Id) (p : List Nat) (i : AV) : idxV 2 tI (.ptr j p tParts) i = idxV 2 tI (.ptr j p (.arr 2 tI)) i := rfl
@[go_sem] theorem fldV_ptr' (st : Ty) (i : Nat) (ft : Ty) (j : Id) (p : List Nat) : fldV st i ft (.ptr j p st) = if st.field i = some ft then some (.ptr j (p ++ [i]) ft) else none := fldV_ptr ..
end Go.Mini

namespace Go.Mini
set_option linter.unusedSimpArgs false
set_option linter.unusedVariables false
def Img.ent (m : Img) (d s : Nat) : Ent := if h : d < 3 ∧ s < 4 then (m.dir[d]'h.1)[s]'h.2 else .zero
def Img.ino (m : Img) (n : Nat) : Ino := if h : n < 8 then m.inode[n] else .zero
def Img.dat (m : Img) (x : Nat) : Dat := if h : x < 9 then m.data[x] else .zero
def Ino.prt (i : Ino) (p : Nat) : Int := if h : p < 2 then i.part[p] else 0
@[go_sem] theorem ent_eq (m : Img) {d s : Nat} (h : d < 3) (h2 : s < 4) : (m.dir[d]'h)[s]'h2 = m.ent d s := by simp [Img.ent, h, h2]
@[go_sem] theorem ino_eq (m : Img) {n : Nat} (h : n < 8) : m.inode[n]'h = m.ino n := by simp [Img.ino, h]
@[go_sem] theorem dat_eq (m : Img) {n : Nat} (h : n < 9) : m.data[n]'h = m.dat n := by simp [Img.dat, h]
@[go_sem] theorem prt_eq (m : Ino) {n : Nat} (h : n < 2) : m.part[n]'h = m.prt n := by simp [Ino.prt, h]
def sumN : Nat → (Nat → Nat) → Nat
  | 0, _ => 0
  | n + 1, f => sumN n f + f n
def b2n (b : Bool) : Nat := if b then 1 else 0
theorem b2n_le (b : Bool) : b2n b ≤ 1 := by cases b <;> simp [b2n]
theorem sumN_le {f : Nat → Nat} {c : Nat} (h : ∀ i, f i ≤ c) : ∀ n, sumN n f ≤ n * c
  | 0 => by simp [sumN]
  | n + 1 => by
    have := sumN_le h n; have := h n
    rw [sumN, Nat.add_mul, Nat.one_mul]; omega
theorem sumN_succ (n : Nat) (f : Nat → Nat) : sumN (n + 1) f = sumN n f + f n := rfl
def leads (m : Img) (d s : Nat) (i : Int) : Bool := !decide ((m.ent d s).name = ⟨#[]⟩) && decide ((m.ent d s).ino = i)
def refsRow (m : Img) (i : Int) (d k : Nat) : Nat := sumN k fun s => b2n (leads m d s i)
def refs (m : Img) (i : Int) : Nat := sumN 3 fun d => refsRow m i d 4
theorem refsRow_le (m : Img) (i : Int) (d k : Nat) : refsRow m i d k ≤ k := by
  have := sumN_le (fun s => b2n_le (leads m d s i)) k; simpa [refsRow] using this
theorem refsRow_succ (m : Img) (i : Int) (d k : Nat) : refsRow m i d (k + 1) = refsRow m i d k + b2n (leads m d k i) := rfl
attribute [go_sem] Int.natCast_add Int.cast_ofNat_Int
@[go_sem] theorem dec_t {p : Prop} [Decidable p] (h : p) : decide p = true := decide_eq_true h
@[go_sem] theorem dec_f {p : Prop} [Decidable p] (h : ¬p) : decide p = false := decide_eq_false h
theorem W_for {T : Nat → Option MFun} {cx : Cx} {keep ko : List Nat} {b : MC} {k : List Item} {s : St} {Q : St → Prop} (N : Nat) (S : Nat → St) (h0 : s.keep keep ko = S 0)
    (step : ∀ j, j ≤ N → (∀ s', j < N → s'.keep keep ko = S (j + 1) → W T cx (.inLoop keep ko b :: k) s' Q) → W T cx (.code b :: .inLoop keep ko b :: k) (S j) Q) :
    W T cx (.code (.loop keep ko b) :: k) s Q :=
  W_loop N (fun j s => s = S j) h0 fun j s hj hs ih => by subst hs; exact step j hj ih
section
variable {cx : Cx} {h : HP} {p : Id} {q : List Nat} {m : Img}
theorem Refs_ok {i : Int} (hb : p.below cx.lvl) (hm : h.rd p q = some m.enc) :
    Ok tbl cx Fn.image_Refs (St.enter [.ptr p q tImage, .int .i64 i] h) fun v h' => v = .int .i64 (refs m i) ∧ h' = h := by
  rw [Ok_eq]
  simp (disch := omega) only [go_sem, St.enter, enterSlots, rd_ext hb, HP.rd_app hm]
  refine W_for 3 (fun d => ⟨[(1, .int .i64 i), (5, .int .i64 (sumN d fun d => refsRow m i d 4 : Nat)), (13, encV (encV Ent.enc) m.dir), (14, .int .i64 d)], [], h⟩) (by simp only [go_sem]; rfl) fun d hd ih => ?_
  by_cases hlt : d < 3
  · have hs := sumN_le (fun d => refsRow_le m i d 4) d
    simp (disch := omega) only [go_sem, hlt]
    refine W_for 4 (fun s => ⟨[(1, .int .i64 i), (5, .int .i64 ((sumN d fun d => refsRow m i d 4) + refsRow m i d s : Nat)), (13, encV (encV Ent.enc) m.dir), (14, .int .i64 d), (17, encV Ent.enc m.dir[d]), (18, .int .i64 s)], [], h⟩) (by simp only [go_sem]; rfl) fun s hs' ih' => ?_
    have hr := refsRow_le m i d s
    by_cases hlt' : s < 4
    · simp (disch := omega) only [go_sem, hlt']
      refine WG_intro (fun hc => ?_) (fun hc => ?_) <;> simp (disch := omega) only [go_sem, hc]
      · refine WC_intro (fun hc' => ?_) (fun hc' => ?_) <;> simp (disch := omega) only [go_sem]
        · refine ih' _ hlt' ?_
          simp only [go_sem, refsRow_succ, leads, hc, hc', b2n, Int.add_assoc]
        · refine ih' _ hlt' ?_
          simp only [go_sem, refsRow_succ, leads, hc, hc', b2n, Int.add_assoc, Nat.add_zero]
      · refine ih' _ hlt' ?_
        simp only [go_sem, refsRow_succ, leads, hc, b2n, Int.add_assoc, Nat.add_zero]
    · obtain rfl : s = 4 := by omega
      simp (disch := omega) only [go_sem]
      exact ih _ hlt (by simp only [go_sem, sumN_succ])
  · obtain rfl : d = 3 := by omega
    simp (disch := omega) only [go_sem]
    exact rfl
end
end Go.Mini

namespace Go.Mini
set_option linter.unusedSimpArgs false
set_option linter.unusedVariables false
section
variable {T : Nat → Option MFun} {cx : Cx} {k : List Item} {kill : List Nat} {r : List MOp} {sl : Slots} {own : Own} {h : HP} {Q : St → Prop}
theorem W_round {a b : List Nat} {c : MC} {s : St} : W T cx (.code (.loop a b c) :: k) s Q = W T cx (.code c :: .inLoop a b c :: k) (s.keep a b) Q := W_iff rfl
theorem W_again {a b : List Nat} {c : MC} {s : St} : W T cx (.inLoop a b c :: k) s Q = W T cx (.code c :: .inLoop a b c :: k) (s.keep a b) Q := W_iff rfl
@[go_sem] theorem enter0 : St.enter [] h = ⟨[], [], h⟩ := rfl
@[go_sem] theorem enter1 (a : AV) : St.enter [a] h = ⟨[(0, a)], [], h⟩ := rfl
@[go_sem] theorem enter2 (a b : AV) : St.enter [a, b] h = ⟨[(0, a), (1, b)], [], h⟩ := rfl
@[go_sem] theorem enter3 (a b c : AV) : St.enter [a, b, c] h = ⟨[(0, a), (1, b), (2, c)], [], h⟩ := rfl
@[go_sem] theorem enter4 (a b c d : AV) : St.enter [a, b, c, d] h = ⟨[(0, a), (1, b), (2, c), (3, d)], [], h⟩ := rfl
@[go_sem] theorem enter5 (a b c d e : AV) : St.enter [a, b, c, d, e] h = ⟨[(0, a), (1, b), (2, c), (3, d), (4, e)], [], h⟩ := rfl
attribute [go_sem] Nat.reduceAdd Nat.reduceMul Nat.reduceSub Int.reduceAdd Int.reduceToNat Int.reduceLT Int.reduceLE Int.reduceEq Int.reduceMul Int.reduceSub Int.reduceNeg Int.toNat_natCast
@[go_sem] theorem img_mk (a : Vector Ino 8) (b : Vector (Vector Ent 4) 3) (c : Vector Dat 9) : AV.cons (encV Ino.enc a) (.cons (encV (encV Ent.enc) b) (.cons (encV Dat.enc c) .unit)) = Img.enc ⟨a, b, c⟩ := rfl
@[go_sem] theorem dec_T [inst : Decidable True] : @decide True inst = true := decide_eq_true trivial
@[go_sem] theorem dec_F [inst : Decidable False] : @decide False inst = false := decide_eq_false id
@[go_sem] theorem into_self (i : Id) (p : List Nat) (t : Ty) : AV.into i (.ptr i p t) = true := by simp [AV.into]
theorem apart_ptr {i : Id} {l t : Nat} (h : i.below l) (p : List Nat) (u : Ty) : AV.apart (.stk l t) (.ptr i p u) = true := by
  have : (i == Id.stk l t) = false := by simpa using h.ne
  simp [AV.apart, this]
@[go_sem] theorem apart_own (l s t : Nat) (p : List Nat) (u : Ty) : AV.apart (.stk l t) (.ptr (.stk l s) p u) = !(s == t) := by
  simp only [AV.apart]; congr 1; rw [Bool.eq_iff_iff]; simp
@[go_sem] theorem all_one {α : Type} (a : α) (P : α → Prop) : (∀ u ∈ [a], P u) = P a := by simp
@[go_sem] theorem all_two {α : Type} (a b : α) (P : α → Prop) : (∀ u ∈ [a, b], P u) = (P a ∧ P b) := by simp
@[go_sem] theorem enter6 (a b c d e f : AV) : St.enter [a, b, c, d, e, f] h = ⟨[(0, a), (1, b), (2, c), (3, d), (4, e), (5, f)], [], h⟩ := rfl
def two (x y : Option AV) : Option AV := match x, y with
  | some x, some y => some (.tup (.cons x (.cons y .unit)))
  | _, _ => none
@[go_sem] theorem two_some (x y : AV) : two (some x) (some y) = some (.tup (.cons x (.cons y .unit))) := rfl
def res1 (cx : Cx) (s : St) (r : MRes) : Option AV := resOf cx s r
@[go_sem] theorem results_two {a b : MRes} {s : St} : results cx s [a, b] = two (res1 cx s a) (res1 cx s b) := by
  simp only [results, resList, two, res1]
  cases resOf cx s a <;> cases resOf cx s b <;> rfl
@[go_sem] theorem res1_tmp {t : Nat} : res1 cx ⟨sl, own, h⟩ (.tmp t) = if (sl.get t).safe = true then some (sl.get t) else none := rfl
@[go_sem] theorem res1_cell {t : Nat} {ty : Ty} : res1 cx ⟨sl, own, h⟩ (.cell t ty) = cellV cx ⟨sl, own, h⟩ (sl.get t) ty := rfl
@[go_sem] theorem extV_0 (a b : AV) : extV (.tup (.cons a b)) 0 = if a.safe = true then some a else none := rfl
@[go_sem] theorem extV_1 (a b c : AV) : extV (.tup (.cons a (.cons b c))) 1 = if b.safe = true then some b else none := rfl
@[go_sem] theorem safe_ent (e : Ent) : e.enc.safe = true := rfl
@[go_sem] theorem safe_ino (e : Ino) : e.enc.safe = true := rfl
@[go_sem] theorem safe_dat (e : Dat) : e.enc.safe = true := rfl
@[go_sem] theorem safe_img (e : Img) : e.enc.safe = true := rfl
end
section
variable {cx : Cx} {h : HP} {p p' : Id} {q q' : List Nat} {m m' : Img}
@[go_sem] theorem fill_nil (t : Ty) (v : AV) : fill t v [] = some v := rfl
theorem Free_ok : Ok tbl cx Fn.image_Free (St.enter [] h) fun v h' => v = Ino.none.enc ∧ h' = h := by
  rw [Ok_eq]
  simp (disch := omega) only [go_sem, W_round, W_again]
  exact rfl
theorem None_ok : Ok tbl cx Fn.eiderdownref_None (St.enter [] h) fun v h' => v = Ino.none.enc ∧ h' = h := by
  rw [Ok_eq]
  simp (disch := omega) only [go_sem, W_round, W_again]
  exact rfl
def Img.blank : Img := { Img.zero with inode := Vector.replicate 8 Ino.none }
theorem New_ok : Ok tbl cx Fn.image_New (St.enter [] h) fun v h' => v = Img.blank.enc ∧ h' = h := by
  rw [Ok_eq]
  simp (disch := omega) only [go_sem, W_round, W_again]
  iterate 8 (
    refine W_callp rfl ⟨rfl, rfl⟩ (by simp only [go_sem]; exact Free_ok) ?_
    simp (disch := omega) only [go_sem, W_round, W_again])
  exact rfl
theorem leads_ok {d s : Nat} {i : Int} (hd : d < 3) (hs : s < 4) (hb : p.below cx.lvl) (hm : h.rd p q = some m.enc) :
    Ok tbl cx Fn.eiderdownref_leads (St.enter [.ptr p q tImage, .int .i64 d, .int .i64 s, .int .i64 i] h) fun v h' => v = .bool (leads m d s i) ∧ h' = h := by
  rw [Ok_eq]
  simp (disch := omega) only [go_sem, rd_ext hb, HP.rd_app hm]
  refine WG_intro (fun hc => ?_) (fun hc => ?_) <;> simp (disch := omega) only [go_sem, hc, rd_ext hb, HP.rd_app hm]
  all_goals simp only [leads, hc, go_sem]
theorem Leads_ok {i : Int} (hb : p.below cx.lvl) (hm : h.rd p q = some m.enc) :
    Ok tbl cx Fn.eiderdownref_Leads (St.enter [.ptr p q tImage, .int .i64 i] h) fun v h' => v = .int .i64 (refs m i) ∧ h' = h := by
  rw [Ok_eq]
  simp (disch := omega) only [go_sem, rd_ext hb, HP.rd_app hm]
  refine W_for 3 (fun d => ⟨[(0, .ptr p q tImage), (1, .int .i64 i), (5, .int .i64 (sumN d fun d => refsRow m i d 4 : Nat)), (6, .int .i64 d)], [], h⟩) (by simp only [go_sem]; rfl) fun d hd ih => ?_
  by_cases hlt : d < 3
  · have hs := sumN_le (fun d => refsRow_le m i d 4) d
    simp (disch := omega) only [go_sem, hlt]
    refine W_for 4 (fun s => ⟨[(0, .ptr p q tImage), (1, .int .i64 i), (5, .int .i64 ((sumN d fun d => refsRow m i d 4) + refsRow m i d s : Nat)), (6, .int .i64 d), (7, .int .i64 s)], [], h⟩) (by simp only [go_sem]; rfl) fun s hs' ih' => ?_
    have hr := refsRow_le m i d s
    by_cases hlt' : s < 4
    · simp (disch := omega) only [go_sem, hlt']
      refine W_callp rfl ⟨rfl, rfl⟩ (by simp only [go_sem]; exact leads_ok (m := m) hlt hlt' hb.succ (by simp only [HP.push_rd_ext hb, hm])) ?_
      simp (disch := omega) only [go_sem, hlt']
      refine WC_intro (fun hc' => ?_) (fun hc' => ?_) <;> simp (disch := omega) only [go_sem] <;> refine ih' _ hlt' ?_ <;>
          simp only [go_sem, refsRow_succ, hc', b2n, Int.add_assoc, Nat.add_zero]
    · obtain rfl : s = 4 := by omega
      simp (disch := omega) only [go_sem]
      exact ih _ hlt (by simp only [go_sem, sumN_succ])
  · obtain rfl : d = 3 := by omega
    simp (disch := omega) only [go_sem]
    exact rfl
def bothRow (m m' : Img) (i : Int) (d k : Nat) : Nat := sumN k fun s => b2n (leads m d s i || leads m' d s i)
def both (m m' : Img) (i : Int) : Nat := sumN 3 fun d => bothRow m m' i d 4
theorem bothRow_le (m m' : Img) (i : Int) (d k : Nat) : bothRow m m' i d k ≤ k := by
  have := sumN_le (fun s => b2n_le (leads m d s i || leads m' d s i)) k; simpa [bothRow] using this
theorem bothRow_succ (m m' : Img) (i : Int) (d k : Nat) : bothRow m m' i d (k + 1) = bothRow m m' i d k + b2n (leads m d k i || leads m' d k i) := rfl
end
end Go.Mini

namespace Go.Mini
set_option linter.unusedSimpArgs false
set_option linter.unusedVariables false
set_option maxHeartbeats 4000000
set_option maxRecDepth 100000
section
variable {cx : Cx} {h : HP} {p p' : Id} {q q' : List Nat} {m m' : Img}
theorem Union_ok {i : Int} (hb : p.below cx.lvl) (hm : h.rd p q = some m.enc) (hb' : p'.below cx.lvl) (hm' : h.rd p' q' = some m'.enc) :
    Ok tbl cx Fn.safe_Union (St.enter [.ptr p q tImage, .ptr p' q' tImage, .int .i64 i] h) fun v h' => v = .int .i64 (both m m' i) ∧ h' = h := by
  rw [Ok_eq]
  simp (config := { maxSteps := 1000000 }) (disch := omega) only [go_sem]
  refine W_for 3 (fun d => ⟨[(0, .ptr p q tImage), (1, .ptr p' q' tImage), (2, .int .i64 i), (7, .int .i64 (sumN d fun d => bothRow m m' i d 4 : Nat)), (12, .int .i64 d)], [], h⟩) (by simp only [go_sem] <;> rfl) fun d hd ih => ?_
  by_cases hlt : d < 3
  · have hs := sumN_le (fun d => bothRow_le m m' i d 4) d
    simp (config := { maxSteps := 1000000 }) (disch := omega) only [go_sem, hlt]
    refine W_for 4 (fun s => ⟨[(0, .ptr p q tImage), (1, .ptr p' q' tImage), (2, .int .i64 i), (7, .int .i64 ((sumN d fun d => bothRow m m' i d 4) + bothRow m m' i d s : Nat)), (8, .int .i64 d), (12, .int .i64 d), (15, .int .i64 s)], [], h⟩) (by simp only [go_sem] <;> rfl) fun s hs' ih' => ?_
    have hr := bothRow_le m m' i d s
    by_cases hlt' : s < 4
    · simp (config := { maxSteps := 1000000 }) (disch := omega) only [go_sem, hlt', rd_ext hb, HP.rd_app hm, fg_ptr hb, leads_ptr hb, apart_ptr hb, rd_ext hb', HP.rd_app hm', fg_ptr hb', leads_ptr hb', apart_ptr hb']
      refine WG_intro (fun h1 => ?_) (fun h1 => ?_) <;> simp (config := { maxSteps := 1000000 }) (disch := omega) only [go_sem, h1]
      all_goals refine WG_intro (fun h2 => ?_) (fun h2 => ?_) <;> simp (config := { maxSteps := 1000000 }) (disch := omega) only [go_sem, h2]
      all_goals try refine WG_intro (fun h3 => ?_) (fun h3 => ?_) <;> simp (config := { maxSteps := 1000000 }) (disch := omega) only [go_sem, h3]
      all_goals try refine WC_intro (fun h4 => ?_) (fun h4 => ?_) <;> simp (config := { maxSteps := 1000000 }) (disch := omega) only [go_sem, h4]
      all_goals refine ih' _ hlt' ?_
      all_goals (clear ih ih'; simp only [go_sem, bothRow_succ, leads, b2n, Int.add_assoc, Nat.add_zero, *])
    · obtain rfl : s = 4 := by omega
      simp (config := { maxSteps := 1000000 }) (disch := omega) only [go_sem]
      exact ih _ hlt (by simp only [go_sem, sumN_succ])
  · obtain rfl : d = 3 := by omega
    simp (config := { maxSteps := 1000000 }) (disch := omega) only [go_sem]
    exact rfl
end
end Go.Mini

namespace Go.Mini
set_option linter.unusedSimpArgs false
set_option linter.unusedVariables false
set_option maxHeartbeats 4000000
set_option maxRecDepth 100000
def Img.setIno (m : Img) (n : Nat) (y : Ino) : Img := { m with inode := m.inode.setIfInBounds n y }
def Img.setDat (m : Img) (n : Nat) (y : Dat) : Img := { m with data := m.data.setIfInBounds n y }
def Img.setEnt (m : Img) (d s : Nat) (y : Ent) : Img := if h : d < 3 then { m with dir := m.dir.set d (m.dir[d].setIfInBounds s y) } else m
def Ino.setPrt (i : Ino) (p : Nat) (x : Int) : Ino := { i with part := i.part.setIfInBounds p x }
theorem set_bounds {α : Type} {n : Nat} (v : Vector α n) {i : Nat} (h : i < n) (x : α) : v.set i x h = v.setIfInBounds i x := by
  ext j hj; simp [Vector.getElem_set, Vector.getElem_setIfInBounds]
@[go_sem] theorem mk_setIno (m : Img) {n : Nat} (y : Ino) (h : n < 8) : Img.mk (m.inode.set n y h) m.dir m.data = m.setIno n y := by rw [set_bounds]; rfl
@[go_sem] theorem mk_setDat (m : Img) {n : Nat} (y : Dat) (h : n < 9) : Img.mk m.inode m.dir (m.data.set n y h) = m.setDat n y := by rw [set_bounds]; rfl
@[go_sem] theorem mk_setEnt (m : Img) {d s : Nat} (y : Ent) (h : d < 3) (h' : s < 4) : Img.mk m.inode (m.dir.set d ((m.dir[d]'h).set s y h') h) m.data = m.setEnt d s y := by rw [set_bounds (m.dir[d]'h)]; simp only [Img.setEnt, h, dite_true]
@[go_sem] theorem mk_setPrt (i : Ino) {p : Nat} (x : Int) (h : p < 2) : Ino.mk i.live i.stamp i.links (i.part.set p x h) = i.setPrt p x := by rw [set_bounds]; rfl
@[go_sem] theorem ino_setIno (m : Img) (n : Nat) (y : Ino) (j : Nat) : (m.setIno n y).ino j = if n = j ∧ j < 8 then y else m.ino j := by
  simp only [Img.ino, Img.setIno]
  by_cases hj : j < 8
  · simp only [hj, dite_true, and_true, Vector.getElem_setIfInBounds]
  · simp [hj]
@[go_sem] theorem dat_setIno (m : Img) (n : Nat) (y : Ino) (j : Nat) : (m.setIno n y).dat j = m.dat j := rfl
@[go_sem] theorem ent_setIno (m : Img) (n : Nat) (y : Ino) (d s : Nat) : (m.setIno n y).ent d s = m.ent d s := rfl
@[go_sem] theorem dat_setDat (m : Img) (n : Nat) (y : Dat) (j : Nat) : (m.setDat n y).dat j = if n = j ∧ j < 9 then y else m.dat j := by
  simp only [Img.dat, Img.setDat]
  by_cases hj : j < 9
  · simp only [hj, dite_true, and_true, Vector.getElem_setIfInBounds]
  · simp [hj]
@[go_sem] theorem ino_setDat (m : Img) (n : Nat) (y : Dat) (j : Nat) : (m.setDat n y).ino j = m.ino j := rfl
@[go_sem] theorem ent_setDat (m : Img) (n : Nat) (y : Dat) (d s : Nat) : (m.setDat n y).ent d s = m.ent d s := rfl
@[go_sem] theorem ino_setEnt (m : Img) (d s : Nat) (y : Ent) (j : Nat) : (m.setEnt d s y).ino j = m.ino j := by simp only [Img.setEnt]; split <;> rfl
@[go_sem] theorem dat_setEnt (m : Img) (d s : Nat) (y : Ent) (j : Nat) : (m.setEnt d s y).dat j = m.dat j := by simp only [Img.setEnt]; split <;> rfl
theorem ent_setEnt (m : Img) (d s : Nat) (y : Ent) (d' s' : Nat) : (m.setEnt d s y).ent d' s' = if (d = d' ∧ s = s') ∧ d' < 3 ∧ s' < 4 then y else m.ent d' s' := by
  simp only [Img.setEnt]
  by_cases hd : d < 3
  · simp only [hd, dite_true, Img.ent]
    by_cases h : d' < 3 ∧ s' < 4
    · simp only [h, dite_true, and_self, and_true, Vector.getElem_set]
      by_cases e : d = d'
      · subst e; simp [Vector.getElem_setIfInBounds]
      · simp [e]
    · simp [h]
  · simp only [hd, dite_false]
    by_cases e : d = d'
    · subst e; simp [hd]
    · simp [e]
@[go_sem] theorem prt_setPrt (i : Ino) (p : Nat) (x : Int) (j : Nat) : (i.setPrt p x).prt j = if p = j ∧ j < 2 then x else i.prt j := by
  simp only [Ino.prt, Ino.setPrt]
  by_cases hj : j < 2
  · simp only [hj, dite_true, and_true, Vector.getElem_setIfInBounds]
  · simp [hj]
theorem Img.ext_of {m m' : Img} (h1 : ∀ n, n < 8 → m.ino n = m'.ino n) (h2 : ∀ d s, d < 3 → s < 4 → m.ent d s = m'.ent d s) (h3 : ∀ x, x < 9 → m.dat x = m'.dat x) : m = m' := by
  cases m with | mk a b c => cases m' with | mk a' b' c' =>
  congr 1
  · ext1 n hn; have := h1 n hn; simpa [Img.ino, hn] using this
  · ext1 d hd; ext1 s hs; have := h2 d s hd hs; simpa [Img.ent, hd, hs] using this
  · ext1 n hn; have := h3 n hn; simpa [Img.dat, hn] using this
theorem Ino.ext_of {i j : Ino} (h1 : i.live = j.live) (h2 : i.stamp = j.stamp) (h3 : i.links = j.links) (h4 : ∀ p, p < 2 → i.prt p = j.prt p) : i = j := by
  cases i with | mk a b c d => cases j with | mk a' b' c' d' =>
  obtain rfl : a = a' := h1
  obtain rfl : b = b' := h2
  obtain rfl : c = c' := h3
  congr 1
  ext n hn; have := h4 n hn; simpa [Ino.prt, hn] using this
@[go_sem] theorem live_setPrt (i : Ino) (p : Nat) (x : Int) : (i.setPrt p x).live = i.live := rfl
@[go_sem] theorem stamp_setPrt (i : Ino) (p : Nat) (x : Int) : (i.setPrt p x).stamp = i.stamp := rfl
@[go_sem] theorem links_setPrt (i : Ino) (p : Nat) (x : Int) : (i.setPrt p x).links = i.links := rfl
def sInodes : Str := ⟨#[105, 110, 111, 100, 101, 115]⟩
def sDir : Str := ⟨#[100, 105, 114]⟩
def sData : Str := ⟨#[100, 97, 116, 97]⟩
def sNone : Str := ⟨#[]⟩
def blockOf (b : Int) : Str × Int :=
  if b < 0 ∨ 14 ≤ b then (sNone, 0) else if b < 2 then (sInodes, b * 4) else if b < 5 then (sDir, b - 2) else (sData, b - 5)
section
variable {cx : Cx} {h : HP} {p p' : Id} {q q' : List Nat} {m m' : Img}
theorem blk_split (b : Int) : b = 0 ∨ b = 1 ∨ b = 2 ∨ b = 3 ∨ b = 4 ∨ b = 5 ∨ b = 6 ∨ b = 7 ∨ b = 8 ∨ b = 9 ∨ b = 10 ∨ b = 11 ∨ b = 12 ∨ b = 13 ∨ b < 0 ∨ 14 ≤ b := by omega
theorem Block_ok {b : Int} : Ok tbl cx Fn.safe_Block (St.enter [.int .i64 b] h) fun v h' => v = .tup (.cons (.str (blockOf b).1) (.cons (.int .i64 (blockOf b).2) .unit)) ∧ h' = h := by
  rw [Ok_eq]
  rcases blk_split b with rfl | rfl | rfl | rfl | rfl | rfl | rfl | rfl | rfl | rfl | rfl | rfl | rfl | rfl | hb | hb
  all_goals simp (config := { maxSteps := 1000000 }) (disch := omega) only [go_sem, W_round, W_again]
  all_goals first | rfl | simp only [blockOf, hb, true_or, or_true, if_true]; rfl
end
end Go.Mini

namespace Go.Mini
set_option linter.unusedSimpArgs false
set_option linter.unusedVariables false
set_option maxHeartbeats 4000000
set_option maxRecDepth 100000
def part (now disk : Img) (n p : Nat) : Int :=
  let x := (now.ino n).prt p
  if x < 0 ∨ 9 ≤ x then -1 else if (disk.dat x.toNat).of = (now.ino n).stamp then x
    else if (disk.ino n).live = true ∧ (disk.ino n).stamp = (now.ino n).stamp then (disk.ino n).prt p else -1
def inodeAs (now disk : Img) (n : Nat) : Ino :=
  if (now.ino n).live = true then ⟨(now.ino n).live, (now.ino n).stamp, both now disk n, #v[part now disk n 0, part now disk n 1]⟩
  else if (disk.ino n).live = true ∧ 0 < both now disk n then { disk.ino n with links := both now disk n } else Ino.none
section
variable {cx : Cx} {h : HP} {p p' : Id} {q q' : List Nat} {m m' : Img}
theorem part_ok {n j : Nat} (hn : n < 8) (hj : j < 2) (hb : p.below cx.lvl) (hm : h.rd p q = some m.enc) (hb' : p'.below cx.lvl) (hm' : h.rd p' q' = some m'.enc) :
    Ok tbl cx Fn.safe_part (St.enter [.ptr p q tImage, .ptr p' q' tImage, .int .i64 n, .int .i64 j] h) fun v h' => v = .int .i64 (part m m' n j) ∧ h' = h := by
  rw [Ok_eq]
  simp (config := { maxSteps := 1000000 }) (disch := omega) only [go_sem, rd_ext hb, HP.rd_app hm, fg_ptr hb, leads_ptr hb, apart_ptr hb, rd_ext hb', HP.rd_app hm', fg_ptr hb', leads_ptr hb', apart_ptr hb']
  by_cases h0 : (m.ino n).prt j < 0
  · simp (config := { maxSteps := 1000000 }) (disch := omega) only [go_sem, h0]; simp only [part, h0, true_or, if_true]
  by_cases h9 : 9 ≤ (m.ino n).prt j
  · simp (config := { maxSteps := 1000000 }) (disch := omega) only [go_sem, h0, h9]; simp only [part, h9, or_true, if_true]
  simp (config := { maxSteps := 1000000 }) (disch := omega) only [go_sem, h0, h9, rd_ext hb, HP.rd_app hm, fg_ptr hb, leads_ptr hb, apart_ptr hb, rd_ext hb', HP.rd_app hm', fg_ptr hb', leads_ptr hb', apart_ptr hb']
  have hx : ¬((m.ino n).prt j < 0 ∨ 9 ≤ (m.ino n).prt j) := by omega
  refine WC_intro (fun h1 => ?_) (fun h1 => ?_) <;> simp (config := { maxSteps := 1000000 }) (disch := omega) only [go_sem, h1, rd_ext hb, HP.rd_app hm, fg_ptr hb, leads_ptr hb, apart_ptr hb, rd_ext hb', HP.rd_app hm', fg_ptr hb', leads_ptr hb', apart_ptr hb']
  · simp only [decide_eq_true_eq] at h1
    simp only [part, hx, h1, if_true, if_false]
  simp only [decide_eq_false_iff_not] at h1
  refine WG_intro (fun h2 => ?_) (fun h2 => ?_) <;> simp (config := { maxSteps := 1000000 }) (disch := omega) only [go_sem, h2, rd_ext hb, HP.rd_app hm, fg_ptr hb, leads_ptr hb, apart_ptr hb, rd_ext hb', HP.rd_app hm', fg_ptr hb', leads_ptr hb', apart_ptr hb']
  · refine WC_intro (fun h3 => ?_) (fun h3 => ?_) <;> simp (config := { maxSteps := 1000000 }) (disch := omega) only [go_sem, h3, rd_ext hb, HP.rd_app hm, fg_ptr hb, leads_ptr hb, apart_ptr hb, rd_ext hb', HP.rd_app hm', fg_ptr hb', leads_ptr hb', apart_ptr hb']
    · simp only [decide_eq_true_eq] at h3
      simp only [part, hx, h1, h2, h3, if_true, if_false, and_self]
    · simp only [decide_eq_false_iff_not] at h3
      simp only [part, hx, h1, h2, h3, if_true, if_false, and_false]
  · simp [part, hx, h1, h2]
@[go_sem] theorem set01 (v : Vector Int 2) (a b : Int) (h : 0 < 2) (h' : 1 < 2) : (v.set 0 a h).set 1 b h' = #v[a, b] := by
  ext i hi
  obtain rfl | rfl : i = 0 ∨ i = 1 := by omega
  all_goals simp
theorem Inode_ok {n : Nat} (hn : n < 8) (hb : p.below cx.lvl) (hm : h.rd p q = some m.enc) (hb' : p'.below cx.lvl) (hm' : h.rd p' q' = some m'.enc) :
    Ok tbl cx Fn.safe_Inode (St.enter [.ptr p q tImage, .ptr p' q' tImage, .int .i64 n] h) fun v h' => v = (inodeAs m m' n).enc ∧ h' = h := by
  rw [Ok_eq]
  simp (config := { maxSteps := 1000000 }) (disch := omega) only [go_sem, rd_ext hb, HP.rd_app hm, fg_ptr hb, leads_ptr hb, apart_ptr hb, rd_ext hb', HP.rd_app hm', fg_ptr hb', leads_ptr hb', apart_ptr hb']
  refine W_callp rfl ⟨rfl, rfl⟩ (by simp only [go_sem]; exact Union_ok (m := m) (m' := m') hb.succ (by simp only [HP.push_rd_ext hb, hm]) hb'.succ (by simp only [HP.push_rd_ext hb', hm'])) ?_
  simp (config := { maxSteps := 1000000 }) (disch := omega) only [go_sem, rd_ext hb, HP.rd_app hm, fg_ptr hb, leads_ptr hb, apart_ptr hb, rd_ext hb', HP.rd_app hm', fg_ptr hb', leads_ptr hb', apart_ptr hb']
  refine WC_intro (fun h1 => ?_) (fun h1 => ?_) <;> simp (config := { maxSteps := 1000000 }) (disch := omega) only [go_sem, h1, rd_ext hb, HP.rd_app hm, fg_ptr hb, leads_ptr hb, apart_ptr hb, rd_ext hb', HP.rd_app hm', fg_ptr hb', leads_ptr hb', apart_ptr hb']
  · refine WG_intro (fun h2 => ?_) (fun h2 => ?_) <;> simp (config := { maxSteps := 1000000 }) (disch := omega) only [go_sem, h2, rd_ext hb, HP.rd_app hm, fg_ptr hb, leads_ptr hb, apart_ptr hb, rd_ext hb', HP.rd_app hm', fg_ptr hb', leads_ptr hb', apart_ptr hb']
    · refine WC_intro (fun h3 => ?_) (fun h3 => ?_) <;> simp (config := { maxSteps := 1000000 }) (disch := omega) only [go_sem, h3, rd_ext hb, HP.rd_app hm, fg_ptr hb, leads_ptr hb, apart_ptr hb, rd_ext hb', HP.rd_app hm', fg_ptr hb', leads_ptr hb', apart_ptr hb']
      · simp at h1 h3
        simp [inodeAs, h1, h2, h3]
      · refine W_callp rfl ⟨rfl, rfl⟩ (by simp only [go_sem]; exact Free_ok) ?_
        simp (config := { maxSteps := 1000000 }) (disch := omega) only [go_sem]
        simp at h1 h3
        simp [inodeAs, h1, h2, h3]
    · refine W_callp rfl ⟨rfl, rfl⟩ (by simp only [go_sem]; exact Free_ok) ?_
      simp (config := { maxSteps := 1000000 }) (disch := omega) only [go_sem]
      simp at h1 h2
      simp [inodeAs, h1, h2]
  · simp only [W_round, W_again]
    simp (config := { maxSteps := 1000000 }) (disch := omega) only [go_sem]
    refine W_callp rfl ⟨rfl, rfl⟩ (by simp only [go_sem]; exact part_ok (n := n) (j := 0) (m := m) (m' := m') hn (by omega) hb.succ (by simp only [HP.push_rd_ext hb, hm]) hb'.succ (by simp only [HP.push_rd_ext hb', hm'])) ?_
    simp (config := { maxSteps := 1000000 }) (disch := omega) only [go_sem, W_round, W_again]
    refine W_callp rfl ⟨rfl, rfl⟩ (by simp only [go_sem]; exact part_ok (n := n) (j := 1) (m := m) (m' := m') hn (by omega) hb.succ (by simp only [HP.push_rd_ext hb, hm]) hb'.succ (by simp only [HP.push_rd_ext hb', hm'])) ?_
    simp (config := { maxSteps := 1000000 }) (disch := omega) only [go_sem, W_round, W_again]
    simp at h1
    simp [inodeAs, h1]
def prts (now disk : Img) (n j : Nat) : Vector Int 2 := Vector.ofFn fun p : Fin 2 => if p.val < j then part now disk n p else (now.ino n).prt p
@[go_sem] theorem prts_at {n j : Nat} (h : j < 2) : (prts m m' n j)[j]'h = (m.ino n).prt j := by simp [prts]
end
end Go.Mini

namespace Go.Mini
set_option linter.unusedSimpArgs false
set_option linter.unusedVariables false
set_option maxHeartbeats 4000000
set_option maxRecDepth 100000
def entryAs (now disk : Img) (d s : Nat) : Ent :=
  let a := now.ent d s
  let b := disk.ent d s
  if a = b then b
  else if b.name = ⟨#[]⟩ then
    if a.ino < 0 ∨ 8 ≤ a.ino then b
    else if (disk.ino a.ino.toNat).live = true ∧ (disk.ino a.ino.toNat).stamp = a.stamp ∧ (refs disk a.ino : Int) < (disk.ino a.ino.toNat).links then a else b
  else if 1 < refs disk b.ino ∨ refs now b.ino = 0 then Ent.zero else b
section
variable {cx : Cx} {h : HP} {p p' : Id} {q q' : List Nat} {m m' : Img}
theorem Entry_ok {d s : Nat} (hd : d < 3) (hs : s < 4) (hb : p.below cx.lvl) (hm : h.rd p q = some m.enc) (hb' : p'.below cx.lvl) (hm' : h.rd p' q' = some m'.enc) :
    Ok tbl cx Fn.safe_Entry (St.enter [.ptr p q tImage, .ptr p' q' tImage, .int .i64 d, .int .i64 s] h) fun v h' => v = (entryAs m m' d s).enc ∧ h' = h := by
  rw [Ok_eq]
  simp (config := { maxSteps := 1000000 }) (disch := omega) only [go_sem, rd_ext hb, HP.rd_app hm, fg_ptr hb, leads_ptr hb, apart_ptr hb, rd_ext hb', HP.rd_app hm', fg_ptr hb', leads_ptr hb', apart_ptr hb']
  by_cases h1 : m.ent d s = m'.ent d s
  · simp (config := { maxSteps := 1000000 }) (disch := omega) only [go_sem, h1]; simp [entryAs, h1]
  simp (config := { maxSteps := 1000000 }) (disch := omega) only [go_sem, h1]
  by_cases h2 : (m'.ent d s).name = ⟨#[]⟩
  · simp (config := { maxSteps := 1000000 }) (disch := omega) only [go_sem, h2]
    by_cases h3 : (m.ent d s).ino < 0
    · simp (config := { maxSteps := 1000000 }) (disch := omega) only [go_sem, h3]; simp [entryAs, h1, h2, h3]
    by_cases h4 : 8 ≤ (m.ent d s).ino
    · simp (config := { maxSteps := 1000000 }) (disch := omega) only [go_sem, h2, h3, h4]; simp [entryAs, h1, h2, h3, h4]
    simp (config := { maxSteps := 1000000 }) (disch := omega) only [go_sem, h2, h3, h4, rd_ext hb, HP.rd_app hm, fg_ptr hb, leads_ptr hb, apart_ptr hb, rd_ext hb', HP.rd_app hm', fg_ptr hb', leads_ptr hb', apart_ptr hb']
    have h34 : ¬((m.ent d s).ino < 0 ∨ 8 ≤ (m.ent d s).ino) := by omega
    by_cases h5 : (m'.ino (m.ent d s).ino.toNat).live = true
    · simp (config := { maxSteps := 1000000 }) (disch := omega) only [go_sem, h5]
      by_cases h6 : (m'.ino (m.ent d s).ino.toNat).stamp = (m.ent d s).stamp
      · simp (config := { maxSteps := 1000000 }) (disch := omega) only [go_sem, h6]
        refine W_callp rfl ⟨rfl, rfl⟩ (by simp only [go_sem]; exact Refs_ok (m := m') hb'.succ (by simp only [HP.push_rd_ext hb', hm'])) ?_
        simp (config := { maxSteps := 1000000 }) (disch := omega) only [go_sem, h6]
        refine WC_intro (fun h7 => ?_) (fun h7 => ?_) <;> simp (config := { maxSteps := 1000000 }) (disch := omega) only [go_sem, h7]
        · simp at h7
          simp [entryAs, h1, h2, h34, h5, h6, h7]
        · simp at h7
          have h8 : ¬(refs m' (m.ent d s).ino : Int) < (m'.ino (m.ent d s).ino.toNat).links := by omega
          simp [entryAs, h1, h2, h34, h5, h6, h8]
      · simp (config := { maxSteps := 1000000 }) (disch := omega) only [go_sem, h6]
        simp [entryAs, h1, h2, h34, h5, h6]
    · simp (config := { maxSteps := 1000000 }) (disch := omega) only [go_sem, h5]
      simp [entryAs, h1, h2, h34, h5]
  · simp (config := { maxSteps := 1000000 }) (disch := omega) only [go_sem, h2, rd_ext hb, HP.rd_app hm, fg_ptr hb, leads_ptr hb, apart_ptr hb, rd_ext hb', HP.rd_app hm', fg_ptr hb', leads_ptr hb', apart_ptr hb']
    refine W_callp rfl ⟨rfl, rfl⟩ (by simp only [go_sem]; exact Refs_ok (m := m') hb'.succ (by simp only [HP.push_rd_ext hb', hm'])) ?_
    simp (config := { maxSteps := 1000000 }) (disch := omega) only [go_sem, h2, rd_ext hb, HP.rd_app hm, fg_ptr hb, leads_ptr hb, apart_ptr hb, rd_ext hb', HP.rd_app hm', fg_ptr hb', leads_ptr hb', apart_ptr hb']
    refine WG_intro (fun h3 => ?_) (fun h3 => ?_) <;> simp (config := { maxSteps := 1000000 }) (disch := omega) only [go_sem, h3, rd_ext hb, HP.rd_app hm, fg_ptr hb, leads_ptr hb, apart_ptr hb, rd_ext hb', HP.rd_app hm', fg_ptr hb', leads_ptr hb', apart_ptr hb']
    · refine W_callp rfl ⟨rfl, rfl⟩ (by simp only [go_sem]; exact Refs_ok (m := m) hb.succ (by simp only [HP.push_rd_ext hb, hm])) ?_
      simp (config := { maxSteps := 1000000 }) (disch := omega) only [go_sem, h2, rd_ext hb, HP.rd_app hm, fg_ptr hb, leads_ptr hb, apart_ptr hb, rd_ext hb', HP.rd_app hm', fg_ptr hb', leads_ptr hb', apart_ptr hb']
      refine WC_intro (fun h4 => ?_) (fun h4 => ?_) <;> simp (config := { maxSteps := 1000000 }) (disch := omega) only [go_sem, h4, rd_ext hb, HP.rd_app hm, fg_ptr hb, leads_ptr hb, apart_ptr hb, rd_ext hb', HP.rd_app hm', fg_ptr hb', leads_ptr hb', apart_ptr hb']
      · simp at h3 h4
        simp [entryAs, h1, h2, h3, h4]
      · simp at h3 h4
        have h5 : ¬1 < refs m' (m'.ent d s).ino := by omega
        simp [entryAs, h1, h2, h3, h4, h5]
    · simp at h3
      have h5 : 1 < refs m' (m'.ent d s).ino := by omega
      simp [entryAs, h1, h2, h5]
end
end Go.Mini

namespace Go.Mini
set_option linter.unusedSimpArgs false
set_option linter.unusedVariables false
set_option maxHeartbeats 4000000
set_option maxRecDepth 100000
def wrInodes (now disk : Img) (n : Nat) : Nat → Img
  | 0 => disk
  | k + 1 => (wrInodes now disk n k).setIno (n + k) (inodeAs now disk (n + k))
def wrDir (now disk : Img) (d : Nat) : Nat → Img
  | 0 => disk
  | k + 1 => (wrDir now disk d k).setEnt d k (entryAs now (wrDir now disk d k) d k)
def writeAs (now disk : Img) (b : Int) : Img × Bool :=
  if (blockOf b).1 = sInodes then (wrInodes now disk (blockOf b).2.toNat 4, true)
  else if (blockOf b).1 = sDir then (wrDir now disk (blockOf b).2.toNat 4, true)
  else if (blockOf b).1 = sData then (disk.setDat (blockOf b).2.toNat (now.dat (blockOf b).2.toNat), true)
  else (disk, false)
theorem blockOf_cases (b : Int) : (∃ n : Nat, n ≤ 4 ∧ blockOf b = (sInodes, (n : Int))) ∨ (∃ n : Nat, n < 3 ∧ blockOf b = (sDir, (n : Int))) ∨ (∃ n : Nat, n < 9 ∧ blockOf b = (sData, (n : Int))) ∨ blockOf b = (sNone, 0) := by
  unfold blockOf
  by_cases h1 : b < 0 ∨ 14 ≤ b
  · simp [h1]
  by_cases h2 : b < 2
  · refine .inl ⟨(b * 4).toNat, by omega, ?_⟩
    rw [if_neg h1, if_pos h2]; congr 1; omega
  by_cases h3 : b < 5
  · refine .inr (.inl ⟨(b - 2).toNat, by omega, ?_⟩)
    rw [if_neg h1, if_neg h2, if_pos h3]; congr 1; omega
  · refine .inr (.inr (.inl ⟨(b - 5).toNat, by omega, ?_⟩))
    rw [if_neg h1, if_neg h2, if_neg h3]; congr 1; omega
theorem st_ii : decide (sInodes = ⟨#[105, 110, 111, 100, 101, 115]⟩) = true := by decide
theorem st_di : decide (sDir = ⟨#[105, 110, 111, 100, 101, 115]⟩) = false := by decide
theorem st_ai : decide (sData = ⟨#[105, 110, 111, 100, 101, 115]⟩) = false := by decide
theorem st_ni : decide (sNone = ⟨#[105, 110, 111, 100, 101, 115]⟩) = false := by decide
theorem st_dd : decide (sDir = ⟨#[100, 105, 114]⟩) = true := by decide
theorem st_ad : decide (sData = ⟨#[100, 105, 114]⟩) = false := by decide
theorem st_nd : decide (sNone = ⟨#[100, 105, 114]⟩) = false := by decide
theorem st_aa : decide (sData = ⟨#[100, 97, 116, 97]⟩) = true := by decide
theorem st_na : decide (sNone = ⟨#[100, 97, 116, 97]⟩) = false := by decide
theorem st_i : decide (sInodes = ⟨#[]⟩) = false := by decide
theorem st_d : decide (sDir = ⟨#[]⟩) = false := by decide
theorem st_a : decide (sData = ⟨#[]⟩) = false := by decide
theorem st_n : decide (sNone = ⟨#[]⟩) = true := by decide
attribute [go_sem] st_ii st_di st_ai st_ni st_dd st_ad st_nd st_aa st_na st_i st_d st_a st_n
theorem ne_di : (sDir = sInodes) = False := eq_false (by decide)
theorem ne_ai : (sData = sInodes) = False := eq_false (by decide)
theorem ne_ni : (sNone = sInodes) = False := eq_false (by decide)
theorem ne_ad : (sData = sDir) = False := eq_false (by decide)
theorem ne_nd : (sNone = sDir) = False := eq_false (by decide)
theorem ne_na : (sNone = sData) = False := eq_false (by decide)
@[go_sem] theorem toNat_add (a b : Nat) : ((a : Int) + (b : Int)).toNat = a + b := by omega
section
variable {m m' : Img} {b : Int} {n : Nat}
theorem writeAs_i (e : blockOf b = (sInodes, (n : Int))) : writeAs m m' b = (wrInodes m m' n 4, true) := by simp only [writeAs, e, if_true, Int.toNat_natCast]
theorem writeAs_d (e : blockOf b = (sDir, (n : Int))) : writeAs m m' b = (wrDir m m' n 4, true) := by simp only [writeAs, e, if_true, if_false, ne_di, Int.toNat_natCast]
theorem writeAs_a (e : blockOf b = (sData, (n : Int))) : writeAs m m' b = (m'.setDat n (m.dat n), true) := by simp only [writeAs, e, if_true, if_false, ne_ai, ne_ad, Int.toNat_natCast]
theorem writeAs_n (e : blockOf b = (sNone, 0)) : writeAs m m' b = (m', false) := by simp only [writeAs, e, if_true, if_false, ne_ni, ne_nd, ne_na]
end
section
variable {cx : Cx} {h : HP} {p p' : Id} {q q' : List Nat} {m m' : Img}
theorem Write_ok {b : Int} (hb : p.below cx.lvl) (hm : h.rd p q = some m.enc) (hb' : p'.below cx.lvl) (hm' : h.rd p' q' = some m'.enc) :
    Ok tbl cx Fn.safe_Write (St.enter [.ptr p q tImage, .ptr p' q' tImage, .int .i64 b] h) fun v h' => v = .tup (.cons (writeAs m m' b).1.enc (.cons (.bool (writeAs m m' b).2) .unit)) ∧ h' = h := by
  rw [Ok_eq]
  have hm0 : h.rd p' q' = some m'.enc := hm'
  simp (config := { maxSteps := 1000000 }) (disch := omega) only [go_sem, rd_ext hb, HP.rd_app hm, fg_ptr hb, leads_ptr hb, apart_ptr hb, rd_ext hb', HP.rd_app hm', fg_ptr hb', leads_ptr hb', apart_ptr hb', hm0]
  refine W_callp rfl ⟨rfl, rfl⟩ (by simp only [go_sem]; exact Block_ok) ?_
  simp (config := { maxSteps := 1000000 }) (disch := omega) only [go_sem]
  obtain ⟨n, hn, e⟩ | ⟨n, hn, e⟩ | ⟨n, hn, e⟩ | e := blockOf_cases b
  · simp (config := { maxSteps := 1000000 }) (disch := omega) only [go_sem, e]
    refine W_for 4 (fun j => ⟨[(0, .ptr p q tImage), (1, .ptr p' q' tImage), (6, .ptr (.stk cx.lvl 6) [] tImage), (8, .ptr (.stk cx.lvl 8) [] tImage), (10, .int .i64 n), (11, .int .i64 (n + j : Nat))],
      [(6, ⟨tImage, Img.zero.enc⟩), (8, ⟨tImage, (wrInodes m m' n j).enc⟩)], h⟩) (by simp only [go_sem, wrInodes, Nat.add_zero]) fun j hj ih => ?_
    by_cases hlt : j < 4
    · simp (config := { maxSteps := 1000000 }) (disch := omega) only [go_sem, rd_ext hb, HP.rd_app hm, fg_ptr hb, leads_ptr hb, apart_ptr hb, rd_ext hb', HP.rd_app hm', fg_ptr hb', leads_ptr hb', apart_ptr hb', hlt]
      refine W_callp rfl ⟨rfl, rfl⟩ (by simp only [go_sem]; rw [← Int.natCast_add]; exact Inode_ok (m := m) (m' := m') (n := n + j) (by omega) hb.succ (by simp only [HP.push_rd_ext hb, hm]) hb'.succ (by simp only [HP.push_rd_ext hb', hm'])) ?_
      simp (config := { maxSteps := 1000000 }) (disch := omega) only [go_sem, rd_ext hb, HP.rd_app hm, fg_ptr hb, leads_ptr hb, apart_ptr hb, rd_ext hb', HP.rd_app hm', fg_ptr hb', leads_ptr hb', apart_ptr hb', hlt]
      refine ih _ hlt ?_
      simp only [go_sem, wrInodes, Int.add_assoc]
    · obtain rfl : j = 4 := by omega
      simp (config := { maxSteps := 1000000 }) (disch := omega) only [go_sem, writeAs_i e]
  · simp (config := { maxSteps := 1000000 }) (disch := omega) only [go_sem, e]
    refine W_for 4 (fun j => ⟨[(0, .ptr p q tImage), (6, .ptr (.stk cx.lvl 6) [] tImage), (8, .ptr (.stk cx.lvl 8) [] tImage), (10, .int .i64 n), (43, .int .i64 j)],
      [(6, ⟨tImage, Img.zero.enc⟩), (8, ⟨tImage, (wrDir m m' n j).enc⟩)], h⟩) (by simp only [go_sem, wrDir] <;> rfl) fun j hj ih => ?_
    by_cases hlt : j < 4
    · simp (config := { maxSteps := 1000000 }) (disch := omega) only [go_sem, rd_ext hb, HP.rd_app hm, fg_ptr hb, leads_ptr hb, apart_ptr hb, rd_ext hb', HP.rd_app hm', fg_ptr hb', leads_ptr hb', apart_ptr hb', hlt]
      refine W_callp rfl ⟨rfl, rfl⟩ (by simp only [go_sem]; exact Entry_ok (m := m) (m' := wrDir m m' n j) hn hlt hb.succ (by simp only [HP.push_rd_ext hb, hm]) (below_stk _ _) (by simp only [go_sem, HP.push_rd_own])) ?_
      simp (config := { maxSteps := 1000000 }) (disch := omega) only [go_sem, rd_ext hb, HP.rd_app hm, fg_ptr hb, leads_ptr hb, apart_ptr hb, rd_ext hb', HP.rd_app hm', fg_ptr hb', leads_ptr hb', apart_ptr hb', hlt]
      refine ih _ hlt ?_
      simp only [go_sem, wrDir]
    · obtain rfl : j = 4 := by omega
      simp (config := { maxSteps := 1000000 }) (disch := omega) only [go_sem, writeAs_d e]
  · simp (config := { maxSteps := 1000000 }) (disch := omega) only [go_sem, e, rd_ext hb, HP.rd_app hm, fg_ptr hb, leads_ptr hb, apart_ptr hb, rd_ext hb', HP.rd_app hm', fg_ptr hb', leads_ptr hb', apart_ptr hb', writeAs_a e]
  · simp (config := { maxSteps := 1000000 }) (disch := omega) only [go_sem, e, rd_ext hb, HP.rd_app hm, fg_ptr hb, leads_ptr hb, apart_ptr hb, rd_ext hb', HP.rd_app hm', fg_ptr hb', leads_ptr hb', apart_ptr hb', hm0, writeAs_n e]
@[go_sem] theorem minV_nat (k : IntKind) (a : Nat) : minV (.int k (a : Int)) (.int k 10000) = some (.int k (min a 10000 : Nat)) := by
  simp only [minV, if_true]; congr 2; split <;> omega
@[go_sem] theorem fill_dat (a : Int) (s : Str) : fill tData Dat.zero.enc [(0, .int .i64 a), (1, .str s)] = some (Dat.enc ⟨a, s⟩) := rfl
@[go_sem] theorem fill_ent (s : Str) (a b : Int) : fill tEntry Ent.zero.enc [(0, .str s), (1, .int .i64 a), (2, .int .i64 b)] = some (Ent.enc ⟨s, a, b⟩) := rfl
def Img.one : Img := ((Img.blank.setIno 2 ⟨true, 5, 1, #v[-1, 3]⟩).setDat 3 ⟨5, ⟨#[120]⟩⟩).setEnt 1 2 ⟨⟨#[97]⟩, 2, 5⟩
end
end Go.Mini

namespace Go.Mini
set_option linter.unusedSimpArgs false
set_option linter.unusedVariables false
set_option maxHeartbeats 4000000
set_option maxRecDepth 100000
theorem sumN_mono {f g : Nat → Nat} (h : ∀ i, f i ≤ g i) : ∀ n, sumN n f ≤ sumN n g
  | 0 => Nat.le_refl _
  | n + 1 => Nat.add_le_add (sumN_mono h n) (h n)
theorem sumN_congr {f g : Nat → Nat} {n : Nat} (h : ∀ i, i < n → f i = g i) : sumN n f = sumN n g := by
  induction n with
  | zero => rfl
  | succ n ih => rw [sumN, sumN, ih fun i hi => h i (by omega), h n (by omega)]
theorem refs_le_both (m m' : Img) (n : Int) : refs m n ≤ both m m' n :=
  sumN_mono (fun d => sumN_mono (fun s => by cases leads m d s n <;> cases leads m' d s n <;> simp [b2n]) 4) 3
theorem both_comm (m m' : Img) (n : Int) : both m m' n = both m' m n := by
  simp only [both, bothRow, Bool.or_comm]
theorem both_self (m : Img) (n : Int) : both m m n = refs m n := by
  simp only [both, bothRow, refs, refsRow, Bool.or_self]
theorem refs_le (m : Img) (n : Int) : refs m n ≤ 12 := sumN_le (fun d => refsRow_le m n d 4) 3
def umod (n c : Int) : Nat := ((IntKind.u64.wrap n).tmod c).toNat
theorem wrapU_nonneg (n : Int) : 0 ≤ IntKind.u64.wrap n := by
  have e1 : (IntKind.u64).bits = 64 := rfl
  have e2 : (IntKind.u64).signed = false := rfl
  have p1 : (2 : Int) ^ 64 = 18446744073709551616 := rfl
  simp only [IntKind.wrap, e1, e2, Bool.false_and, Bool.false_eq_true, if_false, p1]
  omega
@[go_sem] theorem evInt_remU {n c : Int} (hc : 0 < c) : evInt .rem .u64 (IntKind.u64.wrap n) c = some (.int .u64 (umod n c : Nat)) := by
  have h1 := wrapU_nonneg n
  have h3 := Int.tmod_nonneg c h1
  have h0 : ¬c = 0 := by omega
  simp only [evInt, h0, if_false, umod, Option.some.injEq, AV.int.injEq, true_and]
  omega
@[go_sem] theorem eqV_tB (neg a b : Bool) : eqV tB neg (.bool a) (.bool b) = some (.bool (if neg = true then !decide (a = b) else decide (a = b))) := eqV_of rfl rfl (eq_bool a b)
theorem inodeAs_dead (m m' : Img) (n : Nat) (h : (inodeAs m m' n).live = false) : inodeAs m m' n = Ino.none ∧ (m.ino n).live = false := by
  unfold inodeAs at h ⊢
  split at h
  · rename_i hl; simp only [hl] at h; simp at h
  · rename_i hl
    split at h
    · rename_i hd; simp [hd.1] at h
    · rename_i hd; rw [if_neg hl, if_neg hd]; exact ⟨rfl, by simpa using hl⟩
theorem inodeAs_links (m m' : Img) (n : Nat) (h : (inodeAs m m' n).live = true) : (inodeAs m m' n).links = both m m' n := by
  unfold inodeAs at h ⊢
  split
  · rfl
  · rename_i hl
    rw [if_neg hl] at h
    split
    · rfl
    · rename_i hd; rw [if_neg hd] at h; simp [Ino.none] at h
end Go.Mini
