/- A part of the proof: MiniN. -/
import Derived.Test.YtpkndgkaecamlabMiniM
namespace Go.Mini
set_option linter.unusedSimpArgs false
set_option linter.unusedVariables false
set_option maxHeartbeats 4000000
set_option maxRecDepth 100000

/-! What is found first. -/
def anyN : Nat → (Nat → Bool) → Bool
  | 0, _ => false
  | n + 1, f => anyN n f || f n
def firstI : Nat → (Nat → Int) → Int
  | 0, _ => 0
  | n + 1, f => if firstI n f = 0 then f n else firstI n f
def findN : Nat → (Nat → Bool) → Int
  | 0, _ => -1
  | n + 1, f => if anyN n f = true then findN n f else if f n = true then n else -1
theorem anyN_iff {f : Nat → Bool} : ∀ {n}, anyN n f = true ↔ ∃ i, i < n ∧ f i = true
  | 0 => by simp [anyN]
  | n + 1 => by
    rw [anyN, Bool.or_eq_true, anyN_iff]
    constructor
    · rintro (⟨i, h1, h2⟩ | h)
      · exact ⟨i, by omega, h2⟩
      · exact ⟨n, by omega, h⟩
    · rintro ⟨i, h1, h2⟩
      by_cases e : i = n
      · subst e; exact .inr h2
      · exact .inl ⟨i, by omega, h2⟩
theorem anyN_false {f : Nat → Bool} {n : Nat} : anyN n f = false ↔ ∀ i, i < n → f i = false := by
  rw [← Bool.not_eq_true, anyN_iff]
  constructor
  · intro h i hi; rw [← Bool.not_eq_true]; exact fun hf => h ⟨i, hi, hf⟩
  · rintro h ⟨i, hi, hf⟩; rw [h i hi] at hf; exact absurd hf (by simp)
theorem anyN_at {f : Nat → Bool} {n j : Nat} (hj : j < n) (h : f j = true) : anyN n f = true := anyN_iff.2 ⟨j, hj, h⟩
theorem anyN_succ (n : Nat) (f : Nat → Bool) : anyN (n + 1) f = (anyN n f || f n) := rfl
theorem firstI_zero {f : Nat → Int} : ∀ {n}, firstI n f = 0 ↔ ∀ i, i < n → f i = 0
  | 0 => by simp [firstI]
  | n + 1 => by
    rw [firstI]
    constructor
    · intro h i hi
      split at h
      · rename_i h0
        by_cases e : i = n
        · subst e; exact h
        · exact firstI_zero.1 h0 i (by omega)
      · rename_i h0; exact absurd h h0
    · intro h
      rw [if_pos (firstI_zero.2 fun i hi => h i (by omega))]
      exact h n (by omega)
theorem firstI_at {f : Nat → Int} {j : Nat} (h0 : ∀ i, i < j → f i = 0) (h : f j ≠ 0) : ∀ {n}, j < n → firstI n f = f j
  | 0, hj => by omega
  | n + 1, hj => by
    rw [firstI]
    by_cases e : j = n
    · subst e; rw [if_pos (firstI_zero.2 h0)]
    · rw [firstI_at h0 h (n := n) (by omega), if_neg h]
theorem firstI_congr {f g : Nat → Int} {n : Nat} (h : ∀ i, i < n → f i = g i) : firstI n f = firstI n g := by
  induction n with
  | zero => rfl
  | succ n ih => rw [firstI, firstI, ih fun i hi => h i (by omega), h n (by omega)]
theorem anyN_congr {f g : Nat → Bool} {n : Nat} (h : ∀ i, i < n → f i = g i) : anyN n f = anyN n g := by
  induction n with
  | zero => rfl
  | succ n ih => rw [anyN, anyN, ih fun i hi => h i (by omega), h n (by omega)]
theorem findN_none {f : Nat → Bool} {n : Nat} (h : ∀ i, i < n → f i = false) : findN n f = -1 := by
  induction n with
  | zero => rfl
  | succ n ih => rw [findN, if_neg (by rw [anyN_false.2 fun i hi => h i (by omega)]; simp), h n (by omega)]; rfl
theorem findN_at {f : Nat → Bool} {j : Nat} (h0 : ∀ i, i < j → f i = false) (h : f j = true) : ∀ {n}, j < n → findN n f = j
  | 0, hj => by omega
  | n + 1, hj => by
    rw [findN]
    by_cases e : j = n
    · subst e; rw [if_neg (by rw [anyN_false.2 h0]; simp), if_pos h]
    · rw [if_pos (anyN_at (by omega) h), findN_at h0 h (by omega)]
theorem findN_any {f : Nat → Bool} : ∀ {n : Nat}, anyN n f = true → ∃ j : Nat, j < n ∧ findN n f = j ∧ f j = true ∧ ∀ i, i < j → f i = false
  | 0, h => by simp [anyN] at h
  | n + 1, h => by
    rw [findN]
    by_cases ha : anyN n f = true
    · rw [if_pos ha]
      obtain ⟨j, h1, h2, h3⟩ := findN_any ha
      exact ⟨j, by omega, h2, h3⟩
    · have hf : f n = true := by
        rw [anyN, Bool.or_eq_true] at h
        exact h.resolve_left ha
      rw [if_neg ha, if_pos hf]
      exact ⟨n, by omega, rfl, hf, fun i hi => anyN_false.1 (by simpa using ha) i hi⟩
theorem findN_lt {f : Nat → Bool} {n : Nat} : findN n f = -1 ∨ ∃ j : Nat, j < n ∧ findN n f = j ∧ f j = true ∧ ∀ i, i < j → f i = false := by
  by_cases h : anyN n f = true
  · exact .inr (findN_any h)
  · exact .inl (findN_none fun i hi => anyN_false.1 (by simpa using h) i hi)
theorem findN_neg {f : Nat → Bool} {n : Nat} (h : findN n f = -1) : ∀ i, i < n → f i = false := by
  apply anyN_false.1
  rw [← Bool.not_eq_true]
  intro ha
  obtain ⟨j, _, e, _⟩ := findN_any ha
  omega

theorem W_forP {T : Nat → Option MFun} {cx : Cx} {keep ko : List Nat} {b : MC} {k : List Item} {s : St} {Q : St → Prop} (N : Nat) (S : Nat → St) (P : Nat → Prop) (h0 : s.keep keep ko = S 0) (p0 : P 0)
    (step : ∀ j, j ≤ N → P j → (∀ s', j < N → P (j + 1) → s'.keep keep ko = S (j + 1) → W T cx (.inLoop keep ko b :: k) s' Q) → W T cx (.code b :: .inLoop keep ko b :: k) (S j) Q) :
    W T cx (.code (.loop keep ko b) :: k) s Q :=
  W_loop N (fun j s => s = S j ∧ P j) ⟨h0, p0⟩ fun j s hj hs ih => by obtain ⟨rfl, hp⟩ := hs; exact step j hj hp fun s' h1 h2 h3 => ih s' h1 ⟨h3, h2⟩
theorem step_all {P : Nat → Prop} {j : Nat} (h : ∀ i, i < j → P i) (hj : P j) : ∀ i, i < j + 1 → P i := by
  intro i hi
  by_cases e : i = j
  · subst e; exact hj
  · exact h i (by omega)

/-! Names. -/
def byteAt (s : Str) (i : Nat) : Nat := (s.data.getD i 0).toNat
@[go_sem] theorem stridxV_nat {s : Str} {k : IntKind} {i : Nat} (h : i < s.size) : stridxV (.str s) (.int k (i : Int)) = some (.int .u8 (byteAt s i : Nat)) := by
  have hs : i < s.data.size := h
  have e : s[i]? = some s.data[i] := by
    rw [getElem?_pos s i h]; rfl
  simp only [stridxV, toIx]
  rw [if_pos (by omega), Int.toNat_natCast, e]
  simp [byteAt, getElem?_pos s.data i hs]
def badByte (s : Str) (i : Nat) : Bool := decide (byteAt s i < 97) || decide (122 < byteAt s i)
def isName (s : Str) : Bool := !decide (s = ⟨#[]⟩) && decide (s.size ≤ 6) && !anyN s.size (badByte s)
theorem size_zero {s : Str} : s = ⟨#[]⟩ ↔ s.size = 0 := by
  cases s with | mk a =>
  simp only [ByteArray.mk.injEq, ByteArray.size]
  exact ⟨fun h => by rw [h]; rfl, fun h => Array.eq_empty_of_size_eq_zero h⟩
section
variable {cx : Cx} {h : HP} {p p' : Id} {q q' : List Nat} {m m' : Img}
theorem Name_ok {s : Str} (hs : s.size ≤ 100000) : Ok tbl cx Fn.image_Name (St.enter [.str s] h) fun v h' => v = .bool (isName s) ∧ h' = h := by
  rw [Ok_eq]
  simp (config := { maxSteps := 1000000 }) (disch := omega) only [go_sem]
  refine W_forP s.size (fun j => ⟨[(0, .str s), (5, .int .i64 s.size), (6, .int .i64 j)], [], h⟩) (fun j => ∀ i, i < j → badByte s i = false) (by simp only [go_sem] <;> rfl) (fun i hi => by omega) fun j hj hp ih => ?_
  by_cases hlt : j < s.size
  · simp (config := { maxSteps := 1000000 }) (disch := omega) only [go_sem, hlt]
    by_cases h1 : byteAt s j < 97
    · simp (config := { maxSteps := 1000000 }) (disch := omega) only [go_sem, hlt]
      have : anyN s.size (badByte s) = true := anyN_at hlt (by simp [badByte, h1])
      simp [isName, this]
    · by_cases h2 : 122 < byteAt s j
      · simp (config := { maxSteps := 1000000 }) (disch := omega) only [go_sem, hlt]
        have : anyN s.size (badByte s) = true := anyN_at hlt (by simp [badByte, h2])
        simp [isName, this]
      · simp (config := { maxSteps := 1000000 }) (disch := omega) only [go_sem, hlt]
        refine ih _ hlt (step_all hp (by simp [badByte, h1, h2])) ?_
        simp only [go_sem]
  · obtain rfl : j = s.size := by omega
    have hn : anyN s.size (badByte s) = false := anyN_false.2 hp
    simp (config := { maxSteps := 1000000 }) (disch := omega) only [go_sem]
    by_cases h1 : s = ⟨#[]⟩
    · simp (config := { maxSteps := 1000000 }) (disch := omega) only [go_sem, h1]; simp [isName]
    · by_cases h2 : s.size ≤ 6
      · simp (config := { maxSteps := 1000000 }) (disch := omega) only [go_sem, h1]
        simp [isName, hn, h1, h2]
      · simp (config := { maxSteps := 1000000 }) (disch := omega) only [go_sem, h1]
        simp [isName, hn, h1, h2]
theorem IsName_ok {s : Str} (hs : s.size ≤ 100000) : Ok tbl cx Fn.eiderdownref_IsName (St.enter [.str s] h) fun v h' => v = .bool (isName s) ∧ h' = h := by
  rw [Ok_eq]
  simp (config := { maxSteps := 1000000 }) (disch := omega) only [go_sem]
  by_cases h1 : s.size = 0
  · have e := size_zero.2 h1
    simp (config := { maxSteps := 1000000 }) (disch := omega) only [go_sem]
    simp [isName, e]
  have e : ¬s = ⟨#[]⟩ := fun e => h1 (size_zero.1 e)
  by_cases h2 : s.size ≤ 6
  · simp (config := { maxSteps := 1000000 }) (disch := omega) only [go_sem]
    refine W_forP s.size (fun j => ⟨[(0, .str s), (3, .int .i64 j)], [], h⟩) (fun j => ∀ i, i < j → badByte s i = false) (by simp only [go_sem] <;> rfl) (fun i hi => by omega) fun j hj hp ih => ?_
    by_cases hlt : j < s.size
    · simp (config := { maxSteps := 1000000 }) (disch := omega) only [go_sem, hlt]
      by_cases h1 : byteAt s j < 97
      · simp (config := { maxSteps := 1000000 }) (disch := omega) only [go_sem, hlt]
        have : anyN s.size (badByte s) = true := anyN_at hlt (by simp [badByte, h1])
        simp [isName, this]
      · by_cases h2 : 122 < byteAt s j
        · simp (config := { maxSteps := 1000000 }) (disch := omega) only [go_sem, hlt]
          have : anyN s.size (badByte s) = true := anyN_at hlt (by simp [badByte, h2])
          simp [isName, this]
        · simp (config := { maxSteps := 1000000 }) (disch := omega) only [go_sem, hlt]
          refine ih _ hlt (step_all hp (by simp [badByte, h1, h2])) ?_
          simp only [go_sem]
    · obtain rfl : j = s.size := by omega
      have hn : anyN s.size (badByte s) = false := anyN_false.2 hp
      simp (config := { maxSteps := 1000000 }) (disch := omega) only [go_sem]
      simp [isName, hn, e, h2]
  · simp (config := { maxSteps := 1000000 }) (disch := omega) only [go_sem]
    simp [isName, h2]

def held (m : Img) (x : Int) : Bool := anyN 8 fun n => (m.ino n).live && (decide ((m.ino n).prt 0 = x) || decide ((m.ino n).prt 1 = x))
theorem Holds_ok {x : Int} (hb : p.below cx.lvl) (hm : h.rd p q = some m.enc) :
    Ok tbl cx Fn.image_Holds (St.enter [.ptr p q tImage, .int .i64 x] h) fun v h' => v = .bool (held m x) ∧ h' = h := by
  rw [Ok_eq]
  simp (config := { maxSteps := 1000000 }) (disch := omega) only [go_sem, rd_ext hb, HP.rd_app hm, fg_ptr hb, leads_ptr hb, apart_ptr hb]
  refine W_forP 8 (fun n => ⟨[(1, .int .i64 x), (10, encV Ino.enc m.inode), (11, .int .i64 n)], [], h⟩) (fun n => ∀ i, i < n → ((m.ino i).live && (decide ((m.ino i).prt 0 = x) || decide ((m.ino i).prt 1 = x))) = false) (by simp only [go_sem] <;> rfl) (fun i hi => by omega) fun n hn hp ih => ?_
  by_cases hlt : n < 8
  · simp (config := { maxSteps := 1000000 }) (disch := omega) only [go_sem, hlt]
    by_cases h1 : (m.ino n).live = true
    · by_cases h2 : (m.ino n).prt 0 = x
      · simp (config := { maxSteps := 1000000 }) (disch := omega) only [go_sem, h1, h2]
        have : held m x = true := anyN_at hlt (by simp [h1, h2])
        simp [this]
      · by_cases h3 : (m.ino n).prt 1 = x
        · simp (config := { maxSteps := 1000000 }) (disch := omega) only [go_sem, h1, h2, h3]
          have : held m x = true := anyN_at hlt (by simp [h1, h3])
          simp [this]
        · simp (config := { maxSteps := 1000000 }) (disch := omega) only [go_sem, h1, h2, h3]
          refine ih _ hlt (step_all hp (by simp [h2, h3])) ?_
          simp only [go_sem]
    · simp only [Bool.not_eq_true] at h1
      simp (config := { maxSteps := 1000000 }) (disch := omega) only [go_sem, h1]
      refine ih _ hlt (step_all hp (by simp [h1])) ?_
      simp only [go_sem]
  · obtain rfl : n = 8 := by omega
    simp (config := { maxSteps := 1000000 }) (disch := omega) only [go_sem]
    have : held m x = false := anyN_false.2 hp
    simp [this]
theorem Held_ok {x : Int} (hb : p.below cx.lvl) (hm : h.rd p q = some m.enc) :
    Ok tbl cx Fn.eiderdownref_Held (St.enter [.ptr p q tImage, .int .i64 x] h) fun v h' => v = .bool (held m x) ∧ h' = h := by
  rw [Ok_eq]
  simp (config := { maxSteps := 1000000 }) (disch := omega) only [go_sem, rd_ext hb, HP.rd_app hm, fg_ptr hb, leads_ptr hb, apart_ptr hb]
  refine W_forP 8 (fun n => ⟨[(0, .ptr p q tImage), (1, .int .i64 x), (5, .int .i64 n)], [], h⟩) (fun n => ∀ i, i < n → ((m.ino i).live && (decide ((m.ino i).prt 0 = x) || decide ((m.ino i).prt 1 = x))) = false) (by simp only [go_sem] <;> rfl) (fun i hi => by omega) fun n hn hp ih => ?_
  by_cases hlt : n < 8
  · simp (config := { maxSteps := 1000000 }) (disch := omega) only [go_sem, hlt]
    refine W_forP 2 (fun r => ⟨[(0, .ptr p q tImage), (1, .int .i64 x), (5, .int .i64 n), (6, .int .i64 r)], [], h⟩) (fun r => ∀ i, i < r → ((m.ino n).live && decide ((m.ino n).prt i = x)) = false) (by simp only [go_sem] <;> rfl) (fun i hi => by omega) fun r hr hp' ih' => ?_
    by_cases hlt' : r < 2
    · simp (config := { maxSteps := 1000000 }) (disch := omega) only [go_sem, hlt, hlt', rd_ext hb, HP.rd_app hm, fg_ptr hb, leads_ptr hb, apart_ptr hb]
      by_cases h1 : (m.ino n).live = true
      · by_cases h2 : (m.ino n).prt r = x
        · simp (config := { maxSteps := 1000000 }) (disch := omega) only [go_sem, h1, h2, hlt, hlt', rd_ext hb, HP.rd_app hm, fg_ptr hb, leads_ptr hb, apart_ptr hb]
          have : held m x = true := anyN_at hlt (by
            obtain rfl | rfl : r = 0 ∨ r = 1 := by omega
            all_goals simp [h1, h2])
          simp [this]
        · simp (config := { maxSteps := 1000000 }) (disch := omega) only [go_sem, h1, h2, hlt, hlt', rd_ext hb, HP.rd_app hm, fg_ptr hb, leads_ptr hb, apart_ptr hb]
          refine ih' _ hlt' (step_all hp' (by simp [h2])) ?_
          simp only [go_sem]
      · simp only [Bool.not_eq_true] at h1
        simp (config := { maxSteps := 1000000 }) (disch := omega) only [go_sem, h1, hlt, hlt', rd_ext hb, HP.rd_app hm, fg_ptr hb, leads_ptr hb, apart_ptr hb]
        refine ih' _ hlt' (step_all hp' (by simp [h1])) ?_
        simp only [go_sem]
    · obtain rfl : r = 2 := by omega
      simp (config := { maxSteps := 1000000 }) (disch := omega) only [go_sem]
      refine ih _ hlt (step_all hp ?_) ?_
      · have h0 := hp' 0 (by omega)
        have h1 := hp' 1 (by omega)
        cases hl : (m.ino n).live <;> simp [hl] at h0 h1 ⊢
        exact ⟨h0, h1⟩
      · simp only [go_sem]
  · obtain rfl : n = 8 := by omega
    simp (config := { maxSteps := 1000000 }) (disch := omega) only [go_sem]
    have : held m x = false := anyN_false.2 hp
    simp [this]

def slotOf (m : Img) (d : Int) (name : Str) : Int := if d < 0 ∨ 3 ≤ d ∨ name = ⟨#[]⟩ then -1 else findN 4 fun s => decide ((m.ent d.toNat s).name = name)
theorem Find_ok {d : Int} {name : Str} (hb : p.below cx.lvl) (hm : h.rd p q = some m.enc) :
    Ok tbl cx Fn.image_Find (St.enter [.ptr p q tImage, .int .i64 d, .str name] h) fun v h' => v = .int .i64 (slotOf m d name) ∧ h' = h := by
  rw [Ok_eq]
  simp (config := { maxSteps := 1000000 }) (disch := omega) only [go_sem, rd_ext hb, HP.rd_app hm, fg_ptr hb, leads_ptr hb, apart_ptr hb]
  by_cases h1 : d < 0
  · simp (config := { maxSteps := 1000000 }) (disch := omega) only [go_sem, h1]; simp [slotOf, h1]
  by_cases h2 : 3 ≤ d
  · simp (config := { maxSteps := 1000000 }) (disch := omega) only [go_sem, h1, h2]; simp [slotOf, h2]
  by_cases h3 : name = ⟨#[]⟩
  · simp (config := { maxSteps := 1000000 }) (disch := omega) only [go_sem, h1, h2, h3]; simp [slotOf]
  have hd : d.toNat < 3 := by omega
  have e : slotOf m d name = findN 4 fun s => decide ((m.ent d.toNat s).name = name) := by simp only [slotOf]; rw [if_neg (by simp only [not_or]; exact ⟨h1, h2, h3⟩)]
  simp (config := { maxSteps := 1000000 }) (disch := omega) only [go_sem, h1, h2, h3, rd_ext hb, HP.rd_app hm, fg_ptr hb, leads_ptr hb, apart_ptr hb]
  refine W_forP 4 (fun s => ⟨[(2, .str name), (24, encV Ent.enc m.dir[d.toNat]), (25, .int .i64 s)], [], h⟩) (fun s => ∀ i, i < s → decide ((m.ent d.toNat i).name = name) = false) (by simp only [go_sem] <;> rfl) (fun i hi => by omega) fun s hs hp ih => ?_
  by_cases hlt : s < 4
  · simp (config := { maxSteps := 1000000 }) (disch := omega) only [go_sem, hlt]
    by_cases h4 : (m.ent d.toNat s).name = name
    · simp (config := { maxSteps := 1000000 }) (disch := omega) only [go_sem, h4, e]
      rw [findN_at hp (by simp [h4]) hlt]
    · simp (config := { maxSteps := 1000000 }) (disch := omega) only [go_sem, h4]
      refine ih _ hlt (step_all hp (by simp [h4])) ?_
      simp only [go_sem]
  · obtain rfl : s = 4 := by omega
    simp (config := { maxSteps := 1000000 }) (disch := omega) only [go_sem, e]
    rw [findN_none hp]
theorem SlotOf_ok {d : Int} {name : Str} (hb : p.below cx.lvl) (hm : h.rd p q = some m.enc) :
    Ok tbl cx Fn.eiderdownref_SlotOf (St.enter [.ptr p q tImage, .int .i64 d, .str name] h) fun v h' => v = .int .i64 (slotOf m d name) ∧ h' = h := by
  rw [Ok_eq]
  simp (config := { maxSteps := 1000000 }) (disch := omega) only [go_sem, rd_ext hb, HP.rd_app hm, fg_ptr hb, leads_ptr hb, apart_ptr hb]
  by_cases h1 : d < 0
  · simp (config := { maxSteps := 1000000 }) (disch := omega) only [go_sem, h1]; simp [slotOf, h1]
  by_cases h2 : 3 ≤ d
  · simp (config := { maxSteps := 1000000 }) (disch := omega) only [go_sem, h1, h2]; simp [slotOf, h2]
  by_cases h3 : name = ⟨#[]⟩
  · simp (config := { maxSteps := 1000000 }) (disch := omega) only [go_sem, h1, h2, h3]; simp [slotOf]
  have hd : d.toNat < 3 := by omega
  have e : slotOf m d name = findN 4 fun s => decide ((m.ent d.toNat s).name = name) := by simp only [slotOf]; rw [if_neg (by simp only [not_or]; exact ⟨h1, h2, h3⟩)]
  simp (config := { maxSteps := 1000000 }) (disch := omega) only [go_sem, h1, h2, h3, rd_ext hb, HP.rd_app hm, fg_ptr hb, leads_ptr hb, apart_ptr hb]
  refine W_forP 4 (fun s => ⟨[(0, .ptr p q tImage), (1, .int .i64 d), (2, .str name), (7, .int .i64 s)], [], h⟩) (fun s => ∀ i, i < s → decide ((m.ent d.toNat i).name = name) = false) (by simp only [go_sem] <;> rfl) (fun i hi => by omega) fun s hs hp ih => ?_
  by_cases hlt : s < 4
  · simp (config := { maxSteps := 1000000 }) (disch := omega) only [go_sem, hlt, h1, h2, rd_ext hb, HP.rd_app hm, fg_ptr hb, leads_ptr hb, apart_ptr hb]
    by_cases h4 : (m.ent d.toNat s).name = name
    · simp (config := { maxSteps := 1000000 }) (disch := omega) only [go_sem, h4, e]
      rw [findN_at hp (by simp [h4]) hlt]
    · simp (config := { maxSteps := 1000000 }) (disch := omega) only [go_sem, h4]
      refine ih _ hlt (step_all hp (by simp [h4])) ?_
      simp only [go_sem]
  · obtain rfl : s = 4 := by omega
    simp (config := { maxSteps := 1000000 }) (disch := omega) only [go_sem, e]
    rw [findN_none hp]
end
end Go.Mini
