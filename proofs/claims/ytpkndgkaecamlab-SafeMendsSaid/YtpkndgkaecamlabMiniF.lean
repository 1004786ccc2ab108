/- A part of the proof: MiniF. -/
import Derived.Test.YtpkndgkaecamlabMiniE
namespace Go.Mini
set_option linter.unusedSimpArgs false
set_option linter.unusedVariables false

/-! Parts of an image by number. -/
def Img.ent (m : Img) (d s : Nat) : Ent := if h : d < 3 ∧ s < 4 then (m.dir[d]'h.1)[s]'h.2 else .zero
def Img.ino (m : Img) (n : Nat) : Ino := if h : n < 8 then m.inode[n] else .zero
def Img.dat (m : Img) (x : Nat) : Dat := if h : x < 9 then m.data[x] else .zero
def Ino.prt (i : Ino) (p : Nat) : Int := if h : p < 2 then i.part[p] else 0
@[go_sem] theorem ent_eq (m : Img) {d s : Nat} (h : d < 3) (h2 : s < 4) : (m.dir[d]'h)[s]'h2 = m.ent d s := by simp [Img.ent, h, h2]
@[go_sem] theorem ino_eq (m : Img) {n : Nat} (h : n < 8) : m.inode[n]'h = m.ino n := by simp [Img.ino, h]
@[go_sem] theorem dat_eq (m : Img) {n : Nat} (h : n < 9) : m.data[n]'h = m.dat n := by simp [Img.dat, h]
@[go_sem] theorem prt_eq (m : Ino) {n : Nat} (h : n < 2) : m.part[n]'h = m.prt n := by simp [Ino.prt, h]

def sumN : Nat → (Nat → Nat) → Nat
  | 0, _ => 0
  | n + 1, f => sumN n f + f n
def b2n (b : Bool) : Nat := if b then 1 else 0
theorem b2n_le (b : Bool) : b2n b ≤ 1 := by cases b <;> simp [b2n]
theorem sumN_le {f : Nat → Nat} {c : Nat} (h : ∀ i, f i ≤ c) : ∀ n, sumN n f ≤ n * c
  | 0 => by simp [sumN]
  | n + 1 => by
    have := sumN_le h n; have := h n
    rw [sumN, Nat.add_mul, Nat.one_mul]; omega
theorem sumN_succ (n : Nat) (f : Nat → Nat) : sumN (n + 1) f = sumN n f + f n := rfl
theorem sumN_zero (f : Nat → Nat) : sumN 0 f = 0 := rfl

def leads (m : Img) (d s : Nat) (i : Int) : Bool := !decide ((m.ent d s).name = ⟨#[]⟩) && decide ((m.ent d s).ino = i)
def refsRow (m : Img) (i : Int) (d k : Nat) : Nat := sumN k fun s => b2n (leads m d s i)
def refs (m : Img) (i : Int) : Nat := sumN 3 fun d => refsRow m i d 4
theorem refsRow_le (m : Img) (i : Int) (d k : Nat) : refsRow m i d k ≤ k := by
  have := sumN_le (fun s => b2n_le (leads m d s i)) k; simpa [refsRow] using this
theorem refsRow_succ (m : Img) (i : Int) (d k : Nat) : refsRow m i d (k + 1) = refsRow m i d k + b2n (leads m d k i) := rfl
attribute [go_sem] Int.natCast_add Int.cast_ofNat_Int
@[go_sem] theorem dec_t {p : Prop} [Decidable p] (h : p) : decide p = true := decide_eq_true h
@[go_sem] theorem dec_f {p : Prop} [Decidable p] (h : ¬p) : decide p = false := decide_eq_false h

theorem W_for {T : Nat → Option MFun} {cx : Cx} {keep ko : List Nat} {b : MC} {k : List Item} {s : St} {Q : St → Prop} (N : Nat) (S : Nat → St) (h0 : s.keep keep ko = S 0)
    (step : ∀ j, j ≤ N → (∀ s', j < N → s'.keep keep ko = S (j + 1) → W T cx (.inLoop keep ko b :: k) s' Q) → W T cx (.code b :: .inLoop keep ko b :: k) (S j) Q) :
    W T cx (.code (.loop keep ko b) :: k) s Q :=
  W_loop N (fun j s => s = S j) h0 fun j s hj hs ih => by subst hs; exact step j hj ih

section
variable {cx : Cx} {h : HP} {p : Id} {q : List Nat} {m : Img}
theorem Refs_ok {i : Int} (hb : p.below cx.lvl) (hm : h.rd p q = some m.enc) :
    Ok tbl cx Fn.image_Refs (St.enter [.ptr p q tImage, .int .i64 i] h) fun v h' => v = .int .i64 (refs m i) ∧ h' = h := by
  rw [Ok_eq]
  simp (disch := omega) only [go_sem, St.enter, enterSlots, rd_ext hb, HP.rd_app hm]
  refine W_for 3 (fun d => ⟨[(1, .int .i64 i), (5, .int .i64 (sumN d fun d => refsRow m i d 4 : Nat)), (13, encV (encV Ent.enc) m.dir), (14, .int .i64 d)], [], h⟩) (by simp only [go_sem]; rfl) fun d hd ih => ?_
  by_cases hlt : d < 3
  · have hs := sumN_le (fun d => refsRow_le m i d 4) d
    simp (disch := omega) only [go_sem, hlt]
    refine W_for 4 (fun s => ⟨[(1, .int .i64 i), (5, .int .i64 ((sumN d fun d => refsRow m i d 4) + refsRow m i d s : Nat)), (13, encV (encV Ent.enc) m.dir), (14, .int .i64 d), (17, encV Ent.enc m.dir[d]), (18, .int .i64 s)], [], h⟩) (by simp only [go_sem]; rfl) fun s hs' ih' => ?_
    have hr := refsRow_le m i d s
    by_cases hlt' : s < 4
    · simp (disch := omega) only [go_sem, hlt']
      refine WG_intro (fun hc => ?_) (fun hc => ?_) <;> simp (disch := omega) only [go_sem, hc]
      · refine WC_intro (fun hc' => ?_) (fun hc' => ?_) <;> simp (disch := omega) only [go_sem]
        · refine ih' _ hlt' ?_
          simp only [go_sem, refsRow_succ, leads, hc, hc', b2n, Int.add_assoc]
        · refine ih' _ hlt' ?_
          simp only [go_sem, refsRow_succ, leads, hc, hc', b2n, Int.add_assoc, Nat.add_zero]
      · refine ih' _ hlt' ?_
        simp only [go_sem, refsRow_succ, leads, hc, b2n, Int.add_assoc, Nat.add_zero]
    · obtain rfl : s = 4 := by omega
      simp (disch := omega) only [go_sem]
      exact ih _ hlt (by simp only [go_sem, sumN_succ])
  · obtain rfl : d = 3 := by omega
    simp (disch := omega) only [go_sem]
    exact rfl
end
end Go.Mini
