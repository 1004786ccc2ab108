/- A part of the proof: MiniI. -/
import Derived.Test.YtpkndgkaecamlabMiniH
namespace Go.Mini
set_option linter.unusedSimpArgs false
set_option linter.unusedVariables false
set_option maxHeartbeats 4000000
set_option maxRecDepth 100000

/-! Changed images. -/
def Img.setIno (m : Img) (n : Nat) (y : Ino) : Img := { m with inode := m.inode.setIfInBounds n y }
def Img.setDat (m : Img) (n : Nat) (y : Dat) : Img := { m with data := m.data.setIfInBounds n y }
def Img.setEnt (m : Img) (d s : Nat) (y : Ent) : Img := if h : d < 3 then { m with dir := m.dir.set d (m.dir[d].setIfInBounds s y) } else m
def Ino.setPrt (i : Ino) (p : Nat) (x : Int) : Ino := { i with part := i.part.setIfInBounds p x }
theorem set_bounds {α : Type} {n : Nat} (v : Vector α n) {i : Nat} (h : i < n) (x : α) : v.set i x h = v.setIfInBounds i x := by
  ext j hj; simp [Vector.getElem_set, Vector.getElem_setIfInBounds]
@[go_sem] theorem mk_setIno (m : Img) {n : Nat} (y : Ino) (h : n < 8) : Img.mk (m.inode.set n y h) m.dir m.data = m.setIno n y := by rw [set_bounds]; rfl
@[go_sem] theorem mk_setDat (m : Img) {n : Nat} (y : Dat) (h : n < 9) : Img.mk m.inode m.dir (m.data.set n y h) = m.setDat n y := by rw [set_bounds]; rfl
@[go_sem] theorem mk_setEnt (m : Img) {d s : Nat} (y : Ent) (h : d < 3) (h' : s < 4) : Img.mk m.inode (m.dir.set d ((m.dir[d]'h).set s y h') h) m.data = m.setEnt d s y := by rw [set_bounds (m.dir[d]'h)]; simp only [Img.setEnt, h, dite_true]
@[go_sem] theorem mk_setPrt (i : Ino) {p : Nat} (x : Int) (h : p < 2) : Ino.mk i.live i.stamp i.links (i.part.set p x h) = i.setPrt p x := by rw [set_bounds]; rfl
@[go_sem] theorem ino_setIno (m : Img) (n : Nat) (y : Ino) (j : Nat) : (m.setIno n y).ino j = if n = j ∧ j < 8 then y else m.ino j := by
  simp only [Img.ino, Img.setIno]
  by_cases hj : j < 8
  · simp only [hj, dite_true, and_true, Vector.getElem_setIfInBounds]
  · simp [hj]
@[go_sem] theorem dat_setIno (m : Img) (n : Nat) (y : Ino) (j : Nat) : (m.setIno n y).dat j = m.dat j := rfl
@[go_sem] theorem ent_setIno (m : Img) (n : Nat) (y : Ino) (d s : Nat) : (m.setIno n y).ent d s = m.ent d s := rfl
@[go_sem] theorem dat_setDat (m : Img) (n : Nat) (y : Dat) (j : Nat) : (m.setDat n y).dat j = if n = j ∧ j < 9 then y else m.dat j := by
  simp only [Img.dat, Img.setDat]
  by_cases hj : j < 9
  · simp only [hj, dite_true, and_true, Vector.getElem_setIfInBounds]
  · simp [hj]
@[go_sem] theorem ino_setDat (m : Img) (n : Nat) (y : Dat) (j : Nat) : (m.setDat n y).ino j = m.ino j := rfl
@[go_sem] theorem ent_setDat (m : Img) (n : Nat) (y : Dat) (d s : Nat) : (m.setDat n y).ent d s = m.ent d s := rfl
@[go_sem] theorem ino_setEnt (m : Img) (d s : Nat) (y : Ent) (j : Nat) : (m.setEnt d s y).ino j = m.ino j := by simp only [Img.setEnt]; split <;> rfl
@[go_sem] theorem dat_setEnt (m : Img) (d s : Nat) (y : Ent) (j : Nat) : (m.setEnt d s y).dat j = m.dat j := by simp only [Img.setEnt]; split <;> rfl
theorem ent_setEnt (m : Img) (d s : Nat) (y : Ent) (d' s' : Nat) : (m.setEnt d s y).ent d' s' = if (d = d' ∧ s = s') ∧ d' < 3 ∧ s' < 4 then y else m.ent d' s' := by
  simp only [Img.setEnt]
  by_cases hd : d < 3
  · simp only [hd, dite_true, Img.ent]
    by_cases h : d' < 3 ∧ s' < 4
    · simp only [h, dite_true, and_self, and_true, Vector.getElem_set]
      by_cases e : d = d'
      · subst e; simp [Vector.getElem_setIfInBounds]
      · simp [e]
    · simp [h]
  · simp only [hd, dite_false]
    by_cases e : d = d'
    · subst e; simp [hd]
    · simp [e]
@[go_sem] theorem prt_setPrt (i : Ino) (p : Nat) (x : Int) (j : Nat) : (i.setPrt p x).prt j = if p = j ∧ j < 2 then x else i.prt j := by
  simp only [Ino.prt, Ino.setPrt]
  by_cases hj : j < 2
  · simp only [hj, dite_true, and_true, Vector.getElem_setIfInBounds]
  · simp [hj]
theorem Img.ext_of {m m' : Img} (h1 : ∀ n, n < 8 → m.ino n = m'.ino n) (h2 : ∀ d s, d < 3 → s < 4 → m.ent d s = m'.ent d s) (h3 : ∀ x, x < 9 → m.dat x = m'.dat x) : m = m' := by
  cases m with | mk a b c => cases m' with | mk a' b' c' =>
  congr 1
  · ext1 n hn; have := h1 n hn; simpa [Img.ino, hn] using this
  · ext1 d hd; ext1 s hs; have := h2 d s hd hs; simpa [Img.ent, hd, hs] using this
  · ext1 n hn; have := h3 n hn; simpa [Img.dat, hn] using this
theorem Ino.ext_of {i j : Ino} (h1 : i.live = j.live) (h2 : i.stamp = j.stamp) (h3 : i.links = j.links) (h4 : ∀ p, p < 2 → i.prt p = j.prt p) : i = j := by
  cases i with | mk a b c d => cases j with | mk a' b' c' d' =>
  obtain rfl : a = a' := h1
  obtain rfl : b = b' := h2
  obtain rfl : c = c' := h3
  congr 1
  ext n hn; have := h4 n hn; simpa [Ino.prt, hn] using this
@[go_sem] theorem live_setPrt (i : Ino) (p : Nat) (x : Int) : (i.setPrt p x).live = i.live := rfl
@[go_sem] theorem stamp_setPrt (i : Ino) (p : Nat) (x : Int) : (i.setPrt p x).stamp = i.stamp := rfl
@[go_sem] theorem links_setPrt (i : Ino) (p : Nat) (x : Int) : (i.setPrt p x).links = i.links := rfl

/-! Blocks. -/
def sInodes : Str := ⟨#[105, 110, 111, 100, 101, 115]⟩
def sDir : Str := ⟨#[100, 105, 114]⟩
def sData : Str := ⟨#[100, 97, 116, 97]⟩
def sNone : Str := ⟨#[]⟩
def blockOf (b : Int) : Str × Int :=
  if b < 0 ∨ 14 ≤ b then (sNone, 0) else if b < 2 then (sInodes, b * 4) else if b < 5 then (sDir, b - 2) else (sData, b - 5)
theorem blockOf_range {b : Int} (h0 : 0 ≤ b) (h1 : b < 14) : ∃ n : Nat, n < 14 ∧ b = n := ⟨b.toNat, by omega, by omega⟩
section
variable {cx : Cx} {h : HP} {p p' : Id} {q q' : List Nat} {m m' : Img}
theorem blk_split (b : Int) : b = 0 ∨ b = 1 ∨ b = 2 ∨ b = 3 ∨ b = 4 ∨ b = 5 ∨ b = 6 ∨ b = 7 ∨ b = 8 ∨ b = 9 ∨ b = 10 ∨ b = 11 ∨ b = 12 ∨ b = 13 ∨ b < 0 ∨ 14 ≤ b := by omega
theorem Block_ok {b : Int} : Ok tbl cx Fn.safe_Block (St.enter [.int .i64 b] h) fun v h' => v = .tup (.cons (.str (blockOf b).1) (.cons (.int .i64 (blockOf b).2) .unit)) ∧ h' = h := by
  rw [Ok_eq]
  rcases blk_split b with rfl | rfl | rfl | rfl | rfl | rfl | rfl | rfl | rfl | rfl | rfl | rfl | rfl | rfl | hb | hb
  all_goals simp (config := { maxSteps := 1000000 }) (disch := omega) only [go_sem, W_round, W_again]
  all_goals first | rfl | simp only [blockOf, hb, true_or, or_true, if_true]; rfl
theorem BlockOf_ok {b : Int} : Ok tbl cx Fn.eiderdownref_BlockOf (St.enter [.int .i64 b] h) fun v h' => v = .tup (.cons (.str (blockOf b).1) (.cons (.int .i64 (blockOf b).2) .unit)) ∧ h' = h := by
  rw [Ok_eq]
  rcases blk_split b with rfl | rfl | rfl | rfl | rfl | rfl | rfl | rfl | rfl | rfl | rfl | rfl | rfl | rfl | hb | hb
  all_goals simp (config := { maxSteps := 1000000 }) (disch := omega) only [go_sem, W_round, W_again]
  all_goals first | rfl | simp only [blockOf, hb, true_or, or_true, if_true]; rfl
end
end Go.Mini
