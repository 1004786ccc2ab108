/- A part of the proof: MiniL. -/
import Derived.Test.YtpkndgkaecamlabMiniK
namespace Go.Mini
set_option linter.unusedSimpArgs false
set_option linter.unusedVariables false
set_option maxHeartbeats 4000000
set_option maxRecDepth 100000

def wrInodes (now disk : Img) (n : Nat) : Nat → Img
  | 0 => disk
  | k + 1 => (wrInodes now disk n k).setIno (n + k) (inodeAs now disk (n + k))
def wrDir (now disk : Img) (d : Nat) : Nat → Img
  | 0 => disk
  | k + 1 => (wrDir now disk d k).setEnt d k (entryAs now (wrDir now disk d k) d k)
def writeAs (now disk : Img) (b : Int) : Img × Bool :=
  if (blockOf b).1 = sInodes then (wrInodes now disk (blockOf b).2.toNat 4, true)
  else if (blockOf b).1 = sDir then (wrDir now disk (blockOf b).2.toNat 4, true)
  else if (blockOf b).1 = sData then (disk.setDat (blockOf b).2.toNat (now.dat (blockOf b).2.toNat), true)
  else (disk, false)
theorem blockOf_cases (b : Int) : (∃ n : Nat, n ≤ 4 ∧ blockOf b = (sInodes, (n : Int))) ∨ (∃ n : Nat, n < 3 ∧ blockOf b = (sDir, (n : Int))) ∨ (∃ n : Nat, n < 9 ∧ blockOf b = (sData, (n : Int))) ∨ blockOf b = (sNone, 0) := by
  unfold blockOf
  by_cases h1 : b < 0 ∨ 14 ≤ b
  · simp [h1]
  by_cases h2 : b < 2
  · refine .inl ⟨(b * 4).toNat, by omega, ?_⟩
    rw [if_neg h1, if_pos h2]; congr 1; omega
  by_cases h3 : b < 5
  · refine .inr (.inl ⟨(b - 2).toNat, by omega, ?_⟩)
    rw [if_neg h1, if_neg h2, if_pos h3]; congr 1; omega
  · refine .inr (.inr (.inl ⟨(b - 5).toNat, by omega, ?_⟩))
    rw [if_neg h1, if_neg h2, if_neg h3]; congr 1; omega
theorem st_ii : decide (sInodes = ⟨#[105, 110, 111, 100, 101, 115]⟩) = true := by decide
theorem st_di : decide (sDir = ⟨#[105, 110, 111, 100, 101, 115]⟩) = false := by decide
theorem st_ai : decide (sData = ⟨#[105, 110, 111, 100, 101, 115]⟩) = false := by decide
theorem st_ni : decide (sNone = ⟨#[105, 110, 111, 100, 101, 115]⟩) = false := by decide
theorem st_dd : decide (sDir = ⟨#[100, 105, 114]⟩) = true := by decide
theorem st_ad : decide (sData = ⟨#[100, 105, 114]⟩) = false := by decide
theorem st_nd : decide (sNone = ⟨#[100, 105, 114]⟩) = false := by decide
theorem st_aa : decide (sData = ⟨#[100, 97, 116, 97]⟩) = true := by decide
theorem st_na : decide (sNone = ⟨#[100, 97, 116, 97]⟩) = false := by decide
theorem st_i : decide (sInodes = ⟨#[]⟩) = false := by decide
theorem st_d : decide (sDir = ⟨#[]⟩) = false := by decide
theorem st_a : decide (sData = ⟨#[]⟩) = false := by decide
theorem st_n : decide (sNone = ⟨#[]⟩) = true := by decide
attribute [go_sem] st_ii st_di st_ai st_ni st_dd st_ad st_nd st_aa st_na st_i st_d st_a st_n
theorem ne_di : (sDir = sInodes) = False := eq_false (by decide)
theorem ne_ai : (sData = sInodes) = False := eq_false (by decide)
theorem ne_ni : (sNone = sInodes) = False := eq_false (by decide)
theorem ne_ad : (sData = sDir) = False := eq_false (by decide)
theorem ne_nd : (sNone = sDir) = False := eq_false (by decide)
theorem ne_na : (sNone = sData) = False := eq_false (by decide)
@[go_sem] theorem toNat_add (a b : Nat) : ((a : Int) + (b : Int)).toNat = a + b := by omega
section
variable {m m' : Img} {b : Int} {n : Nat}
theorem writeAs_i (e : blockOf b = (sInodes, (n : Int))) : writeAs m m' b = (wrInodes m m' n 4, true) := by simp only [writeAs, e, if_true, Int.toNat_natCast]
theorem writeAs_d (e : blockOf b = (sDir, (n : Int))) : writeAs m m' b = (wrDir m m' n 4, true) := by simp only [writeAs, e, if_true, if_false, ne_di, Int.toNat_natCast]
theorem writeAs_a (e : blockOf b = (sData, (n : Int))) : writeAs m m' b = (m'.setDat n (m.dat n), true) := by simp only [writeAs, e, if_true, if_false, ne_ai, ne_ad, Int.toNat_natCast]
theorem writeAs_n (e : blockOf b = (sNone, 0)) : writeAs m m' b = (m', false) := by simp only [writeAs, e, if_true, if_false, ne_ni, ne_nd, ne_na]
end
section
variable {cx : Cx} {h : HP} {p p' : Id} {q q' : List Nat} {m m' : Img}
theorem Write_ok {b : Int} (hb : p.below cx.lvl) (hm : h.rd p q = some m.enc) (hb' : p'.below cx.lvl) (hm' : h.rd p' q' = some m'.enc) :
    Ok tbl cx Fn.safe_Write (St.enter [.ptr p q tImage, .ptr p' q' tImage, .int .i64 b] h) fun v h' => v = .tup (.cons (writeAs m m' b).1.enc (.cons (.bool (writeAs m m' b).2) .unit)) ∧ h' = h := by
  rw [Ok_eq]
  have hm0 : h.rd p' q' = some m'.enc := hm'
  simp (config := { maxSteps := 1000000 }) (disch := omega) only [go_sem, rd_ext hb, HP.rd_app hm, fg_ptr hb, leads_ptr hb, apart_ptr hb, rd_ext hb', HP.rd_app hm', fg_ptr hb', leads_ptr hb', apart_ptr hb', hm0]
  refine W_callp rfl ⟨rfl, rfl⟩ (by simp only [go_sem]; exact Block_ok) ?_
  simp (config := { maxSteps := 1000000 }) (disch := omega) only [go_sem]
  obtain ⟨n, hn, e⟩ | ⟨n, hn, e⟩ | ⟨n, hn, e⟩ | e := blockOf_cases b
  · simp (config := { maxSteps := 1000000 }) (disch := omega) only [go_sem, e]
    refine W_for 4 (fun j => ⟨[(0, .ptr p q tImage), (1, .ptr p' q' tImage), (6, .ptr (.stk cx.lvl 6) [] tImage), (8, .ptr (.stk cx.lvl 8) [] tImage), (10, .int .i64 n), (11, .int .i64 (n + j : Nat))],
      [(6, ⟨tImage, Img.zero.enc⟩), (8, ⟨tImage, (wrInodes m m' n j).enc⟩)], h⟩) (by simp only [go_sem, wrInodes, Nat.add_zero]) fun j hj ih => ?_
    by_cases hlt : j < 4
    · simp (config := { maxSteps := 1000000 }) (disch := omega) only [go_sem, rd_ext hb, HP.rd_app hm, fg_ptr hb, leads_ptr hb, apart_ptr hb, rd_ext hb', HP.rd_app hm', fg_ptr hb', leads_ptr hb', apart_ptr hb', hlt]
      refine W_callp rfl ⟨rfl, rfl⟩ (by simp only [go_sem]; rw [← Int.natCast_add]; exact Inode_ok (m := m) (m' := m') (n := n + j) (by omega) hb.succ (by simp only [HP.push_rd_ext hb, hm]) hb'.succ (by simp only [HP.push_rd_ext hb', hm'])) ?_
      simp (config := { maxSteps := 1000000 }) (disch := omega) only [go_sem, rd_ext hb, HP.rd_app hm, fg_ptr hb, leads_ptr hb, apart_ptr hb, rd_ext hb', HP.rd_app hm', fg_ptr hb', leads_ptr hb', apart_ptr hb', hlt]
      refine ih _ hlt ?_
      simp only [go_sem, wrInodes, Int.add_assoc]
    · obtain rfl : j = 4 := by omega
      simp (config := { maxSteps := 1000000 }) (disch := omega) only [go_sem, writeAs_i e]
  · simp (config := { maxSteps := 1000000 }) (disch := omega) only [go_sem, e]
    refine W_for 4 (fun j => ⟨[(0, .ptr p q tImage), (6, .ptr (.stk cx.lvl 6) [] tImage), (8, .ptr (.stk cx.lvl 8) [] tImage), (10, .int .i64 n), (43, .int .i64 j)],
      [(6, ⟨tImage, Img.zero.enc⟩), (8, ⟨tImage, (wrDir m m' n j).enc⟩)], h⟩) (by simp only [go_sem, wrDir] <;> rfl) fun j hj ih => ?_
    by_cases hlt : j < 4
    · simp (config := { maxSteps := 1000000 }) (disch := omega) only [go_sem, rd_ext hb, HP.rd_app hm, fg_ptr hb, leads_ptr hb, apart_ptr hb, rd_ext hb', HP.rd_app hm', fg_ptr hb', leads_ptr hb', apart_ptr hb', hlt]
      refine W_callp rfl ⟨rfl, rfl⟩ (by simp only [go_sem]; exact Entry_ok (m := m) (m' := wrDir m m' n j) hn hlt hb.succ (by simp only [HP.push_rd_ext hb, hm]) (below_stk _ _) (by simp only [go_sem, HP.push_rd_own])) ?_
      simp (config := { maxSteps := 1000000 }) (disch := omega) only [go_sem, rd_ext hb, HP.rd_app hm, fg_ptr hb, leads_ptr hb, apart_ptr hb, rd_ext hb', HP.rd_app hm', fg_ptr hb', leads_ptr hb', apart_ptr hb', hlt]
      refine ih _ hlt ?_
      simp only [go_sem, wrDir]
    · obtain rfl : j = 4 := by omega
      simp (config := { maxSteps := 1000000 }) (disch := omega) only [go_sem, writeAs_d e]
  · simp (config := { maxSteps := 1000000 }) (disch := omega) only [go_sem, e, rd_ext hb, HP.rd_app hm, fg_ptr hb, leads_ptr hb, apart_ptr hb, rd_ext hb', HP.rd_app hm', fg_ptr hb', leads_ptr hb', apart_ptr hb', writeAs_a e]
  · simp (config := { maxSteps := 1000000 }) (disch := omega) only [go_sem, e, rd_ext hb, HP.rd_app hm, fg_ptr hb, leads_ptr hb, apart_ptr hb, rd_ext hb', HP.rd_app hm', fg_ptr hb', leads_ptr hb', apart_ptr hb', hm0, writeAs_n e]
theorem WriteAs_ok {b : Int} (hb : p.below cx.lvl) (hm : h.rd p q = some m.enc) (hb' : p'.below cx.lvl) (hm' : h.rd p' q' = some m'.enc) :
    Ok tbl cx Fn.eiderdownref_WriteAs (St.enter [.ptr p q tImage, .ptr p' q' tImage, .int .i64 b] h) fun v h' => v = .tup (.cons (writeAs m m' b).1.enc (.cons (.bool (writeAs m m' b).2) .unit)) ∧ h' = h := by
  rw [Ok_eq]
  have hm0 : h.rd p' q' = some m'.enc := hm'
  simp (config := { maxSteps := 1000000 }) (disch := omega) only [go_sem, rd_ext hb, HP.rd_app hm, fg_ptr hb, leads_ptr hb, apart_ptr hb, rd_ext hb', HP.rd_app hm', fg_ptr hb', leads_ptr hb', apart_ptr hb', hm0]
  refine W_callp rfl ⟨rfl, rfl⟩ (by simp only [go_sem]; exact BlockOf_ok) ?_
  simp (config := { maxSteps := 1000000 }) (disch := omega) only [go_sem]
  obtain ⟨n, hn, e⟩ | ⟨n, hn, e⟩ | ⟨n, hn, e⟩ | e := blockOf_cases b
  · simp (config := { maxSteps := 1000000 }) (disch := omega) only [go_sem, e]
    refine W_for 4 (fun j => ⟨[(0, .ptr p q tImage), (1, .ptr p' q' tImage), (6, .ptr (.stk cx.lvl 6) [] tImage), (8, .ptr (.stk cx.lvl 8) [] tImage), (9, .str sInodes), (10, .int .i64 n), (11, .int .i64 j)],
      [(6, ⟨tImage, Img.zero.enc⟩), (8, ⟨tImage, (wrInodes m m' n j).enc⟩)], h⟩) (by simp only [go_sem, wrInodes, Nat.add_zero] <;> rfl) fun j hj ih => ?_
    by_cases hlt : j < 4
    · simp (config := { maxSteps := 1000000 }) (disch := omega) only [go_sem, rd_ext hb, HP.rd_app hm, fg_ptr hb, leads_ptr hb, apart_ptr hb, rd_ext hb', HP.rd_app hm', fg_ptr hb', leads_ptr hb', apart_ptr hb', hlt]
      refine W_callp rfl ⟨rfl, rfl⟩ (by simp only [go_sem]; rw [← Int.natCast_add]; exact InodeAs_ok (m := m) (m' := m') (n := n + j) (by omega) hb.succ (by simp only [HP.push_rd_ext hb, hm]) hb'.succ (by simp only [HP.push_rd_ext hb', hm'])) ?_
      simp (config := { maxSteps := 1000000 }) (disch := omega) only [go_sem, rd_ext hb, HP.rd_app hm, fg_ptr hb, leads_ptr hb, apart_ptr hb, rd_ext hb', HP.rd_app hm', fg_ptr hb', leads_ptr hb', apart_ptr hb', hlt]
      refine ih _ hlt ?_
      simp only [go_sem, wrInodes, Int.add_assoc]
    · obtain rfl : j = 4 := by omega
      simp (config := { maxSteps := 1000000 }) (disch := omega) only [go_sem, writeAs_i e]
  · simp (config := { maxSteps := 1000000 }) (disch := omega) only [go_sem, e]
    refine W_for 4 (fun j => ⟨[(0, .ptr p q tImage), (6, .ptr (.stk cx.lvl 6) [] tImage), (8, .ptr (.stk cx.lvl 8) [] tImage), (9, .str sDir), (10, .int .i64 n), (12, .int .i64 j)],
      [(6, ⟨tImage, Img.zero.enc⟩), (8, ⟨tImage, (wrDir m m' n j).enc⟩)], h⟩) (by simp only [go_sem, wrDir] <;> rfl) fun j hj ih => ?_
    by_cases hlt : j < 4
    · simp (config := { maxSteps := 1000000 }) (disch := omega) only [go_sem, rd_ext hb, HP.rd_app hm, fg_ptr hb, leads_ptr hb, apart_ptr hb, rd_ext hb', HP.rd_app hm', fg_ptr hb', leads_ptr hb', apart_ptr hb', hlt]
      refine W_callp rfl ⟨rfl, rfl⟩ (by simp only [go_sem]; exact EntryAs_ok (m := m) (m' := wrDir m m' n j) hn hlt hb.succ (by simp only [HP.push_rd_ext hb, hm]) (below_stk _ _) (by simp only [go_sem, HP.push_rd_own])) ?_
      simp (config := { maxSteps := 1000000 }) (disch := omega) only [go_sem, rd_ext hb, HP.rd_app hm, fg_ptr hb, leads_ptr hb, apart_ptr hb, rd_ext hb', HP.rd_app hm', fg_ptr hb', leads_ptr hb', apart_ptr hb', hlt]
      refine ih _ hlt ?_
      simp only [go_sem, wrDir]
    · obtain rfl : j = 4 := by omega
      simp (config := { maxSteps := 1000000 }) (disch := omega) only [go_sem, writeAs_d e]
  · simp (config := { maxSteps := 1000000 }) (disch := omega) only [go_sem, e, rd_ext hb, HP.rd_app hm, fg_ptr hb, leads_ptr hb, apart_ptr hb, rd_ext hb', HP.rd_app hm', fg_ptr hb', leads_ptr hb', apart_ptr hb', writeAs_a e]
  · simp (config := { maxSteps := 1000000 }) (disch := omega) only [go_sem, e, rd_ext hb, HP.rd_app hm, fg_ptr hb, leads_ptr hb, apart_ptr hb, rd_ext hb', HP.rd_app hm', fg_ptr hb', leads_ptr hb', apart_ptr hb', hm0, writeAs_n e]

def greatRow (m : Img) (d k : Nat) : Nat := sumN k fun s => min (m.ent d s).name.size 10000
def greatDat (m : Img) (k : Nat) : Nat := sumN k fun x => min (m.dat x).text.size 10000
def greatDir (m : Img) (k : Nat) : Nat := sumN k fun d => greatRow m d 4
def great (m : Img) : Bool := decide (3000 < greatDir m 3 + greatDat m 9)
theorem greatRow_le (m : Img) (d k : Nat) : greatRow m d k ≤ k * 10000 := sumN_le (fun s => Nat.min_le_right _ _) k
theorem greatDat_le (m : Img) (k : Nat) : greatDat m k ≤ k * 10000 := sumN_le (fun s => Nat.min_le_right _ _) k
theorem greatDir_le (m : Img) (k : Nat) : greatDir m k ≤ k * (4 * 10000) := sumN_le (fun d => greatRow_le m d 4) k
@[go_sem] theorem minV_nat (k : IntKind) (a : Nat) : minV (.int k (a : Int)) (.int k 10000) = some (.int k (min a 10000 : Nat)) := by
  simp only [minV, if_true]; congr 2; split <;> omega
theorem Great_ok : Ok tbl cx Fn.eiderdownref_Great (St.enter [m.enc] h) fun v h' => v = .bool (great m) ∧ h' = h := by
  rw [Ok_eq]
  simp (config := { maxSteps := 1000000 }) (disch := omega) only [go_sem]
  refine W_for 3 (fun d => ⟨[(1, .ptr (.stk cx.lvl 1) [] tImage), (3, .int .i64 (greatDir m d)), (4, .int .i64 d)], [(1, ⟨tImage, m.enc⟩)], h⟩) (by simp only [go_sem]; rfl) fun d hd ih => ?_
  have hD := greatDir_le m d
  by_cases hlt : d < 3
  · simp (config := { maxSteps := 1000000 }) (disch := omega) only [go_sem, hlt]
    refine W_for 4 (fun s => ⟨[(1, .ptr (.stk cx.lvl 1) [] tImage), (3, .int .i64 (greatDir m d + greatRow m d s : Nat)), (4, .int .i64 d), (5, .int .i64 s)], [(1, ⟨tImage, m.enc⟩)], h⟩) (by simp only [go_sem]; rfl) fun s hs ih' => ?_
    have hR := greatRow_le m d s
    by_cases hlt' : s < 4
    · have hM : min (m.ent d s).name.size 10000 ≤ 10000 := Nat.min_le_right _ _
      have e : greatRow m d (s + 1) = greatRow m d s + min (m.ent d s).name.size 10000 := rfl
      simp (config := { maxSteps := 1000000 }) (disch := omega) only [go_sem, hlt']
      refine ih' _ hlt' ?_
      simp only [go_sem, e, Int.add_assoc]
    · obtain rfl : s = 4 := by omega
      simp (config := { maxSteps := 1000000 }) (disch := omega) only [go_sem]
      refine ih _ hlt ?_
      have e : greatDir m (d + 1) = greatDir m d + greatRow m d 4 := rfl
      simp only [go_sem, e]
  · obtain rfl : d = 3 := by omega
    simp (config := { maxSteps := 1000000 }) (disch := omega) only [go_sem]
    refine W_for 9 (fun x => ⟨[(1, .ptr (.stk cx.lvl 1) [] tImage), (3, .int .i64 (greatDir m 3 + greatDat m x : Nat)), (6, .int .i64 x)], [(1, ⟨tImage, m.enc⟩)], h⟩) (by simp only [go_sem]; rfl) fun x hx ih => ?_
    have hX := greatDat_le m x
    by_cases hlt : x < 9
    · have hM : min (m.dat x).text.size 10000 ≤ 10000 := Nat.min_le_right _ _
      have e : greatDat m (x + 1) = greatDat m x + min (m.dat x).text.size 10000 := rfl
      simp (config := { maxSteps := 1000000 }) (disch := omega) only [go_sem, hlt]
      refine ih _ hlt ?_
      simp only [go_sem, e, Int.add_assoc]
    · obtain rfl : x = 9 := by omega
      simp (config := { maxSteps := 1000000 }) (disch := omega) only [go_sem]
      simp only [great]
      congr 1
      rw [decide_eq_decide]
      omega
@[go_sem] theorem fill_dat (a : Int) (s : Str) : fill tData Dat.zero.enc [(0, .int .i64 a), (1, .str s)] = some (Dat.enc ⟨a, s⟩) := rfl
@[go_sem] theorem fill_ent (s : Str) (a b : Int) : fill tEntry Ent.zero.enc [(0, .str s), (1, .int .i64 a), (2, .int .i64 b)] = some (Ent.enc ⟨s, a, b⟩) := rfl
def Img.one : Img := ((Img.blank.setIno 2 ⟨true, 5, 1, #v[-1, 3]⟩).setDat 3 ⟨5, ⟨#[120]⟩⟩).setEnt 1 2 ⟨⟨#[97]⟩, 2, 5⟩
theorem one_ok : Ok tbl cx Fn.eiderdownlaw_one (St.enter [] h) fun v h' => v = Img.one.enc ∧ h' = h := by
  rw [Ok_eq]
  simp (config := { maxSteps := 1000000 }) (disch := omega) only [go_sem]
  refine W_callp rfl ⟨rfl, rfl⟩ (by simp only [go_sem]; exact Blank_ok) ?_
  simp (config := { maxSteps := 1000000 }) (disch := omega) only [go_sem]
  rfl
end
end Go.Mini
