/- A part of the proof: what Lb computes, step by step. -/
import Derived.Test.YtpkndgkaecamlacLbPc

namespace Go.Mini
set_option linter.unusedSimpArgs false
set_option linter.unusedVariables false
set_option maxHeartbeats 4000000
set_option maxRecDepth 100000
def anyN : Nat → (Nat → Bool) → Bool
  | 0, _ => false
  | n + 1, f => anyN n f || f n
def firstI : Nat → (Nat → Int) → Int
  | 0, _ => 0
  | n + 1, f => if firstI n f = 0 then f n else firstI n f
def findN : Nat → (Nat → Bool) → Int
  | 0, _ => -1
  | n + 1, f => if anyN n f = true then findN n f else if f n = true then n else -1
theorem anyN_iff {f : Nat → Bool} : ∀ {n}, anyN n f = true ↔ ∃ i, i < n ∧ f i = true
  | 0 => by simp [anyN]
  | n + 1 => by
    rw [anyN, Bool.or_eq_true, anyN_iff]
    constructor
    · rintro (⟨i, h1, h2⟩ | h)
      · exact ⟨i, by omega, h2⟩
      · exact ⟨n, by omega, h⟩
    · rintro ⟨i, h1, h2⟩
      by_cases e : i = n
      · subst e; exact .inr h2
      · exact .inl ⟨i, by omega, h2⟩
theorem anyN_false {f : Nat → Bool} {n : Nat} : anyN n f = false ↔ ∀ i, i < n → f i = false := by
  rw [← Bool.not_eq_true, anyN_iff]
  constructor
  · intro h i hi; rw [← Bool.not_eq_true]; exact fun hf => h ⟨i, hi, hf⟩
  · rintro h ⟨i, hi, hf⟩; rw [h i hi] at hf; exact absurd hf (by simp)
theorem anyN_at {f : Nat → Bool} {n j : Nat} (hj : j < n) (h : f j = true) : anyN n f = true := anyN_iff.2 ⟨j, hj, h⟩
theorem firstI_zero {f : Nat → Int} : ∀ {n}, firstI n f = 0 ↔ ∀ i, i < n → f i = 0
  | 0 => by simp [firstI]
  | n + 1 => by
    rw [firstI]
    constructor
    · intro h i hi
      split at h
      · rename_i h0
        by_cases e : i = n
        · subst e; exact h
        · exact firstI_zero.1 h0 i (by omega)
      · rename_i h0; exact absurd h h0
    · intro h
      rw [if_pos (firstI_zero.2 fun i hi => h i (by omega))]
      exact h n (by omega)
theorem firstI_at {f : Nat → Int} {j : Nat} (h0 : ∀ i, i < j → f i = 0) (h : f j ≠ 0) : ∀ {n}, j < n → firstI n f = f j
  | 0, hj => by omega
  | n + 1, hj => by
    rw [firstI]
    by_cases e : j = n
    · subst e; rw [if_pos (firstI_zero.2 h0)]
    · rw [firstI_at h0 h (n := n) (by omega), if_neg h]
theorem anyN_congr {f g : Nat → Bool} {n : Nat} (h : ∀ i, i < n → f i = g i) : anyN n f = anyN n g := by
  induction n with
  | zero => rfl
  | succ n ih => rw [anyN, anyN, ih fun i hi => h i (by omega), h n (by omega)]
theorem findN_none {f : Nat → Bool} {n : Nat} (h : ∀ i, i < n → f i = false) : findN n f = -1 := by
  induction n with
  | zero => rfl
  | succ n ih => rw [findN, if_neg (by rw [anyN_false.2 fun i hi => h i (by omega)]; simp), h n (by omega)]; rfl
theorem findN_at {f : Nat → Bool} {j : Nat} (h0 : ∀ i, i < j → f i = false) (h : f j = true) : ∀ {n}, j < n → findN n f = j
  | 0, hj => by omega
  | n + 1, hj => by
    rw [findN]
    by_cases e : j = n
    · subst e; rw [if_neg (by rw [anyN_false.2 h0]; simp), if_pos h]
    · rw [if_pos (anyN_at (by omega) h), findN_at h0 h (by omega)]
theorem findN_any {f : Nat → Bool} : ∀ {n : Nat}, anyN n f = true → ∃ j : Nat, j < n ∧ findN n f = j ∧ f j = true ∧ ∀ i, i < j → f i = false
  | 0, h => by simp [anyN] at h
  | n + 1, h => by
    rw [findN]
    by_cases ha : anyN n f = true
    · rw [if_pos ha]
      obtain ⟨j, h1, h2, h3⟩ := findN_any ha
      exact ⟨j, by omega, h2, h3⟩
    · have hf : f n = true := by
        rw [anyN, Bool.or_eq_true] at h
        exact h.resolve_left ha
      rw [if_neg ha, if_pos hf]
      exact ⟨n, by omega, rfl, hf, fun i hi => anyN_false.1 (by simpa using ha) i hi⟩
theorem findN_lt {f : Nat → Bool} {n : Nat} : findN n f = -1 ∨ ∃ j : Nat, j < n ∧ findN n f = j ∧ f j = true ∧ ∀ i, i < j → f i = false := by
  by_cases h : anyN n f = true
  · exact .inr (findN_any h)
  · exact .inl (findN_none fun i hi => anyN_false.1 (by simpa using h) i hi)
theorem findN_neg {f : Nat → Bool} {n : Nat} (h : findN n f = -1) : ∀ i, i < n → f i = false := by
  apply anyN_false.1
  rw [← Bool.not_eq_true]
  intro ha
  obtain ⟨j, _, e, _⟩ := findN_any ha
  omega
theorem W_forP {T : Nat → Option MFun} {cx : Cx} {keep ko : List Nat} {b : MC} {k : List Item} {s : St} {Q : St → Prop} (N : Nat) (S : Nat → St) (P : Nat → Prop) (h0 : s.keep keep ko = S 0) (p0 : P 0)
    (step : ∀ j, j ≤ N → P j → (∀ s', j < N → P (j + 1) → s'.keep keep ko = S (j + 1) → W T cx (.inLoop keep ko b :: k) s' Q) → W T cx (.code b :: .inLoop keep ko b :: k) (S j) Q) :
    W T cx (.code (.loop keep ko b) :: k) s Q :=
  W_loop N (fun j s => s = S j ∧ P j) ⟨h0, p0⟩ fun j s hj hs ih => by obtain ⟨rfl, hp⟩ := hs; exact step j hj hp fun s' h1 h2 h3 => ih s' h1 ⟨h3, h2⟩
theorem step_all {P : Nat → Prop} {j : Nat} (h : ∀ i, i < j → P i) (hj : P j) : ∀ i, i < j + 1 → P i := by
  intro i hi
  by_cases e : i = j
  · subst e; exact hj
  · exact h i (by omega)
def byteAt (s : Str) (i : Nat) : Nat := (s.data.getD i 0).toNat
@[go_sem] theorem stridxV_nat {s : Str} {k : IntKind} {i : Nat} (h : i < s.size) : stridxV (.str s) (.int k (i : Int)) = some (.int .u8 (byteAt s i : Nat)) := by
  have hs : i < s.data.size := h
  have e : s[i]? = some s.data[i] := by
    rw [getElem?_pos s i h]; rfl
  simp only [stridxV, toIx]
  rw [if_pos (by omega), Int.toNat_natCast, e]
  simp [byteAt, getElem?_pos s.data i hs]
def badByte (s : Str) (i : Nat) : Bool := decide (byteAt s i < 97) || decide (122 < byteAt s i)
def isName (s : Str) : Bool := !decide (s = ⟨#[]⟩) && decide (s.size ≤ 6) && !anyN s.size (badByte s)
theorem size_zero {s : Str} : s = ⟨#[]⟩ ↔ s.size = 0 := by
  cases s with | mk a =>
  simp only [ByteArray.mk.injEq, ByteArray.size]
  exact ⟨fun h => by rw [h]; rfl, fun h => Array.eq_empty_of_size_eq_zero h⟩
section
variable {cx : Cx} {h : HP} {p p' : Id} {q q' : List Nat} {m m' : Img}
theorem Name_ok {s : Str} (hs : s.size ≤ 100000) : Ok tbl cx Fn.image_Name (St.enter [.str s] h) fun v h' => v = .bool (isName s) ∧ h' = h := by
  rw [Ok_eq]
  simp (config := { maxSteps := 1000000 }) (disch := omega) only [go_sem]
  refine W_forP s.size (fun j => ⟨[(0, .str s), (5, .int .i64 s.size), (6, .int .i64 j)], [], h⟩) (fun j => ∀ i, i < j → badByte s i = false) (by simp only [go_sem] <;> rfl) (fun i hi => by omega) fun j hj hp ih => ?_
  by_cases hlt : j < s.size
  · simp (config := { maxSteps := 1000000 }) (disch := omega) only [go_sem, hlt]
    by_cases h1 : byteAt s j < 97
    · simp (config := { maxSteps := 1000000 }) (disch := omega) only [go_sem, hlt]
      have : anyN s.size (badByte s) = true := anyN_at hlt (by simp [badByte, h1])
      simp [isName, this]
    · by_cases h2 : 122 < byteAt s j
      · simp (config := { maxSteps := 1000000 }) (disch := omega) only [go_sem, hlt]
        have : anyN s.size (badByte s) = true := anyN_at hlt (by simp [badByte, h2])
        simp [isName, this]
      · simp (config := { maxSteps := 1000000 }) (disch := omega) only [go_sem, hlt]
        refine ih _ hlt (step_all hp (by simp [badByte, h1, h2])) ?_
        simp only [go_sem]
  · obtain rfl : j = s.size := by omega
    have hn : anyN s.size (badByte s) = false := anyN_false.2 hp
    simp (config := { maxSteps := 1000000 }) (disch := omega) only [go_sem]
    by_cases h1 : s = ⟨#[]⟩
    · simp (config := { maxSteps := 1000000 }) (disch := omega) only [go_sem, h1]; simp [isName]
    · by_cases h2 : s.size ≤ 6
      · simp (config := { maxSteps := 1000000 }) (disch := omega) only [go_sem, h1]
        simp [isName, hn, h1, h2]
      · simp (config := { maxSteps := 1000000 }) (disch := omega) only [go_sem, h1]
        simp [isName, hn, h1, h2]
theorem IsName_ok {s : Str} (hs : s.size ≤ 100000) : Ok tbl cx Fn.eiderdownref_IsName (St.enter [.str s] h) fun v h' => v = .bool (isName s) ∧ h' = h := by
  rw [Ok_eq]
  simp (config := { maxSteps := 1000000 }) (disch := omega) only [go_sem]
  by_cases h1 : s.size = 0
  · have e := size_zero.2 h1
    simp (config := { maxSteps := 1000000 }) (disch := omega) only [go_sem]
    simp [isName, e]
  have e : ¬s = ⟨#[]⟩ := fun e => h1 (size_zero.1 e)
  by_cases h2 : s.size ≤ 6
  · simp (config := { maxSteps := 1000000 }) (disch := omega) only [go_sem]
    refine W_forP s.size (fun j => ⟨[(0, .str s), (3, .int .i64 j)], [], h⟩) (fun j => ∀ i, i < j → badByte s i = false) (by simp only [go_sem] <;> rfl) (fun i hi => by omega) fun j hj hp ih => ?_
    by_cases hlt : j < s.size
    · simp (config := { maxSteps := 1000000 }) (disch := omega) only [go_sem, hlt]
      by_cases h1 : byteAt s j < 97
      · simp (config := { maxSteps := 1000000 }) (disch := omega) only [go_sem, hlt]
        have : anyN s.size (badByte s) = true := anyN_at hlt (by simp [badByte, h1])
        simp [isName, this]
      · by_cases h2 : 122 < byteAt s j
        · simp (config := { maxSteps := 1000000 }) (disch := omega) only [go_sem, hlt]
          have : anyN s.size (badByte s) = true := anyN_at hlt (by simp [badByte, h2])
          simp [isName, this]
        · simp (config := { maxSteps := 1000000 }) (disch := omega) only [go_sem, hlt]
          refine ih _ hlt (step_all hp (by simp [badByte, h1, h2])) ?_
          simp only [go_sem]
    · obtain rfl : j = s.size := by omega
      have hn : anyN s.size (badByte s) = false := anyN_false.2 hp
      simp (config := { maxSteps := 1000000 }) (disch := omega) only [go_sem]
      simp [isName, hn, e, h2]
  · simp (config := { maxSteps := 1000000 }) (disch := omega) only [go_sem]
    simp [isName, h2]
def held (m : Img) (x : Int) : Bool := anyN 8 fun n => (m.ino n).live && (decide ((m.ino n).prt 0 = x) || decide ((m.ino n).prt 1 = x))
theorem Holds_ok {x : Int} (hb : p.below cx.lvl) (hm : h.rd p q = some m.enc) :
    Ok tbl cx Fn.image_Holds (St.enter [.ptr p q tImage, .int .i64 x] h) fun v h' => v = .bool (held m x) ∧ h' = h := by
  rw [Ok_eq]
  simp (config := { maxSteps := 1000000 }) (disch := omega) only [go_sem, rd_ext hb, HP.rd_app hm, fg_ptr hb, leads_ptr hb, apart_ptr hb]
  refine W_forP 8 (fun n => ⟨[(1, .int .i64 x), (10, encV Ino.enc m.inode), (11, .int .i64 n)], [], h⟩) (fun n => ∀ i, i < n → ((m.ino i).live && (decide ((m.ino i).prt 0 = x) || decide ((m.ino i).prt 1 = x))) = false) (by simp only [go_sem] <;> rfl) (fun i hi => by omega) fun n hn hp ih => ?_
  by_cases hlt : n < 8
  · simp (config := { maxSteps := 1000000 }) (disch := omega) only [go_sem, hlt]
    by_cases h1 : (m.ino n).live = true
    · by_cases h2 : (m.ino n).prt 0 = x
      · simp (config := { maxSteps := 1000000 }) (disch := omega) only [go_sem, h1, h2]
        have : held m x = true := anyN_at hlt (by simp [h1, h2])
        simp [this]
      · by_cases h3 : (m.ino n).prt 1 = x
        · simp (config := { maxSteps := 1000000 }) (disch := omega) only [go_sem, h1, h2, h3]
          have : held m x = true := anyN_at hlt (by simp [h1, h3])
          simp [this]
        · simp (config := { maxSteps := 1000000 }) (disch := omega) only [go_sem, h1, h2, h3]
          refine ih _ hlt (step_all hp (by simp [h2, h3])) ?_
          simp only [go_sem]
    · simp only [Bool.not_eq_true] at h1
      simp (config := { maxSteps := 1000000 }) (disch := omega) only [go_sem, h1]
      refine ih _ hlt (step_all hp (by simp [h1])) ?_
      simp only [go_sem]
  · obtain rfl : n = 8 := by omega
    simp (config := { maxSteps := 1000000 }) (disch := omega) only [go_sem]
    have : held m x = false := anyN_false.2 hp
    simp [this]
def slotOf (m : Img) (d : Int) (name : Str) : Int := if d < 0 ∨ 3 ≤ d ∨ name = ⟨#[]⟩ then -1 else findN 4 fun s => decide ((m.ent d.toNat s).name = name)
theorem Find_ok {d : Int} {name : Str} (hb : p.below cx.lvl) (hm : h.rd p q = some m.enc) :
    Ok tbl cx Fn.image_Find (St.enter [.ptr p q tImage, .int .i64 d, .str name] h) fun v h' => v = .int .i64 (slotOf m d name) ∧ h' = h := by
  rw [Ok_eq]
  simp (config := { maxSteps := 1000000 }) (disch := omega) only [go_sem, rd_ext hb, HP.rd_app hm, fg_ptr hb, leads_ptr hb, apart_ptr hb]
  by_cases h1 : d < 0
  · simp (config := { maxSteps := 1000000 }) (disch := omega) only [go_sem, h1]; simp [slotOf, h1]
  by_cases h2 : 3 ≤ d
  · simp (config := { maxSteps := 1000000 }) (disch := omega) only [go_sem, h1, h2]; simp [slotOf, h2]
  by_cases h3 : name = ⟨#[]⟩
  · simp (config := { maxSteps := 1000000 }) (disch := omega) only [go_sem, h1, h2, h3]; simp [slotOf]
  have hd : d.toNat < 3 := by omega
  have e : slotOf m d name = findN 4 fun s => decide ((m.ent d.toNat s).name = name) := by simp only [slotOf]; rw [if_neg (by simp only [not_or]; exact ⟨h1, h2, h3⟩)]
  simp (config := { maxSteps := 1000000 }) (disch := omega) only [go_sem, h1, h2, h3, rd_ext hb, HP.rd_app hm, fg_ptr hb, leads_ptr hb, apart_ptr hb]
  refine W_forP 4 (fun s => ⟨[(2, .str name), (24, encV Ent.enc m.dir[d.toNat]), (25, .int .i64 s)], [], h⟩) (fun s => ∀ i, i < s → decide ((m.ent d.toNat i).name = name) = false) (by simp only [go_sem] <;> rfl) (fun i hi => by omega) fun s hs hp ih => ?_
  by_cases hlt : s < 4
  · simp (config := { maxSteps := 1000000 }) (disch := omega) only [go_sem, hlt]
    by_cases h4 : (m.ent d.toNat s).name = name
    · simp (config := { maxSteps := 1000000 }) (disch := omega) only [go_sem, h4, e]
      rw [findN_at hp (by simp [h4]) hlt]
    · simp (config := { maxSteps := 1000000 }) (disch := omega) only [go_sem, h4]
      refine ih _ hlt (step_all hp (by simp [h4])) ?_
      simp only [go_sem]
  · obtain rfl : s = 4 := by omega
    simp (config := { maxSteps := 1000000 }) (disch := omega) only [go_sem, e]
    rw [findN_none hp]
theorem SlotOf_ok {d : Int} {name : Str} (hb : p.below cx.lvl) (hm : h.rd p q = some m.enc) :
    Ok tbl cx Fn.eiderdownref_SlotOf (St.enter [.ptr p q tImage, .int .i64 d, .str name] h) fun v h' => v = .int .i64 (slotOf m d name) ∧ h' = h := by
  rw [Ok_eq]
  simp (config := { maxSteps := 1000000 }) (disch := omega) only [go_sem, rd_ext hb, HP.rd_app hm, fg_ptr hb, leads_ptr hb, apart_ptr hb]
  by_cases h1 : d < 0
  · simp (config := { maxSteps := 1000000 }) (disch := omega) only [go_sem, h1]; simp [slotOf, h1]
  by_cases h2 : 3 ≤ d
  · simp (config := { maxSteps := 1000000 }) (disch := omega) only [go_sem, h1, h2]; simp [slotOf, h2]
  by_cases h3 : name = ⟨#[]⟩
  · simp (config := { maxSteps := 1000000 }) (disch := omega) only [go_sem, h1, h2, h3]; simp [slotOf]
  have hd : d.toNat < 3 := by omega
  have e : slotOf m d name = findN 4 fun s => decide ((m.ent d.toNat s).name = name) := by simp only [slotOf]; rw [if_neg (by simp only [not_or]; exact ⟨h1, h2, h3⟩)]
  simp (config := { maxSteps := 1000000 }) (disch := omega) only [go_sem, h1, h2, h3, rd_ext hb, HP.rd_app hm, fg_ptr hb, leads_ptr hb, apart_ptr hb]
  refine W_forP 4 (fun s => ⟨[(0, .ptr p q tImage), (1, .int .i64 d), (2, .str name), (7, .int .i64 s)], [], h⟩) (fun s => ∀ i, i < s → decide ((m.ent d.toNat i).name = name) = false) (by simp only [go_sem] <;> rfl) (fun i hi => by omega) fun s hs hp ih => ?_
  by_cases hlt : s < 4
  · simp (config := { maxSteps := 1000000 }) (disch := omega) only [go_sem, hlt, h1, h2, rd_ext hb, HP.rd_app hm, fg_ptr hb, leads_ptr hb, apart_ptr hb]
    by_cases h4 : (m.ent d.toNat s).name = name
    · simp (config := { maxSteps := 1000000 }) (disch := omega) only [go_sem, h4, e]
      rw [findN_at hp (by simp [h4]) hlt]
    · simp (config := { maxSteps := 1000000 }) (disch := omega) only [go_sem, h4]
      refine ih _ hlt (step_all hp (by simp [h4])) ?_
      simp only [go_sem]
  · obtain rfl : s = 4 := by omega
    simp (config := { maxSteps := 1000000 }) (disch := omega) only [go_sem, e]
    rw [findN_none hp]
end
end Go.Mini

namespace Go.Mini
set_option linter.unusedSimpArgs false
set_option linter.unusedVariables false
set_option maxHeartbeats 4000000
set_option maxRecDepth 100000
@[go_sem] theorem aidxV_encVi {α : Type} {f : α → AV} {n : Nat} {t : Ty} {v : Vector α n} {k : IntKind} {z : Int} (h0 : 0 ≤ z) (hm : z.toNat < n) : aidxV n t (encV f v) (.int k z) = if (Ty.arr n t).fits (encV f v) = true then some (f (v[z.toNat]'hm)) else none := by
  simp only [encV, aidxV, toIx]
  rw [dif_pos ⟨h0, by omega⟩]
  rfl
def encL (l : List Int) : AV := .ofList (l.map (AV.int .i64))
theorem encL_toList (l : List Int) : (encL l).toList = some (l.map (AV.int .i64)) := by
  simp only [encL, AV.ofList, AV.toList]
  congr 1
  exact List.ext_getElem (by simp) (by simp)
theorem encL_fits (l : List Int) {n : Nat} (h : n = l.length) : (Ty.arr n tI).fits (encL l) = true := by
  subst h
  simp [encL, AV.ofList, Ty.fits, tI, LK.fits, AV.safe]
theorem encL_at (l : List Int) {i : Nat} (h : i < l.length) : (encL l).at [i] = some (.int .i64 l[i]) := by
  simp [encL, AV.ofList, AV.at, h]
section
variable {T : Nat → Option MFun} {cx : Cx} {k : List Item} {kill : List Nat} {r : List MOp} {sl : Slots} {own : Own} {h : HP} {Q : St → Prop}
def sidxB (t : Ty) (j : Id) (o : Nat) (b : Option Blk) : Option AV := match b with
  | some ⟨.arr _ t', _⟩ => if t = t' then some (.ptr j [o] t) else none
  | _ => none
@[go_sem] theorem sidxB_some (t : Ty) (j : Id) (o n : Nat) (v : AV) : sidxB t j o (some ⟨.arr n t, v⟩) = some (.ptr j [o] t) := by simp [sidxB]
def sidxV (t : Ty) (x i : AV) (L : Id → Option Blk) : Option AV := match x, toIx i with
  | .sl j off len, some z => if 0 ≤ z ∧ z < (len : Int) then sidxB t j (off + z.toNat) (L j) else none
  | _, _ => none
@[go_sem] theorem sidxV_nat {t : Ty} {j : Id} {off len m : Nat} {kk : IntKind} {L : Id → Option Blk} (hm : m < len) : sidxV t (.sl j off len) (.int kk (m : Int)) L = sidxB t j (off + m) (L j) := by
  simp only [sidxV, toIx]; rw [if_pos ⟨by omega, by omega⟩]; rfl
@[go_sem] theorem W_sidx {d : Option Nat} {t : Ty} {x i : Opd} {s : St} : W T cx (.ops (⟨d, .sidx false t x i, none⟩ :: r) kill :: k) s Q = W1 T cx (sidxV t (s.opd x) (s.opd i) (s.look cx)) d r kill k s Q :=
  W_val rfl (by
    simp only [evK, sidxV]
    cases s.opd x <;> try rfl
    cases toIx (s.opd i) <;> try rfl
    rename_i j off len z
    simp only [Bool.false_eq_true, false_implies, and_true]
    by_cases hz : 0 ≤ z ∧ z < (len : Int)
    · rw [if_pos hz, if_pos hz]
      cases s.look cx j with
      | none => rfl
      | some b =>
        obtain ⟨bt, bv⟩ := b
        cases bt <;> try rfl
        simp only [sidxB]
        split <;> rfl
    · rw [if_neg hz, if_neg hz]; rfl)
@[go_sem] theorem look_own {d : Nat} : St.look cx ⟨sl, own, h⟩ (.stk cx.lvl d) = own.get d := by simp [St.look, Id.own]
theorem look_ext {i : Id} (hi : i.below cx.lvl) : St.look cx ⟨sl, own, h⟩ i = h.look i := by simp [St.look, below_own hi]
theorem HP.push_look_own {d : Nat} : (h.push cx.lvl own).look (.stk cx.lvl d) = own.get d := by simp [HP.look, HP.push]
@[go_sem] theorem fg_slown (l s t o n : Nat) : fg (.sl (.stk l s) o n) (.stk l t) = if t = s then .bot else .sl (.stk l s) o n := by
  simp only [fg, AV.leads, AV.isAgg, AV.names, Bool.not_false, Bool.true_and, beq_iff_eq, Id.stk.injEq, true_and]
theorem fg_sl {i : Id} {l t : Nat} (hb : i.below l) (o n : Nat) : fg (.sl i o n) (.stk l t) = .sl i o n := by
  have : (Id.stk l t == i) = false := by simpa using fun e : Id.stk l t = i => hb.ne e.symm
  simp [fg, AV.leads, AV.isAgg, AV.names, this]
def WB (T : Nat → Option MFun) (cx : Cx) (v : AV) (d : Nat) (r : List MOp) (kill : List Nat) (k : List Item) (sl : Slots) (own : Own) (h : HP) (Q : St → Prop) : Prop :=
  onO (fill (.arr 1 tI) (Ty.arr 1 tI).zero [(0, v)]) fun w => W T cx (.ops r kill :: k) ⟨(Slots.forget sl (.stk cx.lvl d)).set d (.sl (.stk cx.lvl d) 0 1), own.set d ⟨.arr 1 tI, w⟩, h⟩ Q
theorem fill1 (n : Int) : fill (.arr 1 tI) (Ty.arr 1 tI).zero [(0, .int .i64 n)] = some (encL [n]) := by
  simp only [fill, Ty.part, Nat.lt_one_iff, if_true, fits_tI, Ty.zero, AV.put, Nat.zero_lt_one, dite_true, put_nil, Option.map_some, encL, AV.ofList]
  congr 2
  funext j
  match j with
  | ⟨0, _⟩ => rfl
@[go_sem] theorem WB_int {n : Int} {d : Nat} : WB T cx (.int .i64 n) d r kill k sl own h Q = W T cx (.ops r kill :: k) ⟨(Slots.forget sl (.stk cx.lvl d)).set d (.sl (.stk cx.lvl d) 0 1), own.set d ⟨.arr 1 tI, encL [n]⟩, h⟩ Q := by
  simp only [WB, fill1, onO]
@[go_sem] theorem W_bslice1 {d : Nat} {x : Opd} : W T cx (.ops (⟨some d, .bslice false tI 1 [(0, x)], none⟩ :: r) kill :: k) ⟨sl, own, h⟩ Q = WB T cx (St.opd ⟨sl, own, h⟩ x) d r kill k sl own h Q := by
  rw [W_op rfl, evOp]
  simp only [evK, WB, List.map_cons, List.map_nil]
  cases fill (.arr 1 tI) (Ty.arr 1 tI).zero [(0, St.opd ⟨sl, own, h⟩ x)] <;> rfl
def WA (T : Nat → Option MFun) (cx : Cx) (x : AV) (add : Option (List AV)) (d : Nat) (r : List MOp) (kill : List Nat) (k : List Item) (sl : Slots) (own : Own) (h : HP) (Q : St → Prop) : Prop :=
  onO add fun add => onO (evAppend (St.look cx ⟨sl, own, h⟩) tI x add) fun e => onO (applyEff cx (some d) false ⟨sl, own, h⟩ e) fun p => W T cx (.ops r kill :: k) (p.2.setd (some d) p.1) Q
@[go_sem] theorem W_append {d : Nat} {x y : Opd} : W T cx (.ops (⟨some d, .append false tI x y, none⟩ :: r) kill :: k) ⟨sl, own, h⟩ Q = WA T cx (St.opd ⟨sl, own, h⟩ x) (elems (St.look cx ⟨sl, own, h⟩) tI (St.opd ⟨sl, own, h⟩ y)) d r kill k sl own h Q := by
  rw [W_op rfl, evOp]
  simp only [evK, WA]
  cases elems (St.look cx ⟨sl, own, h⟩) tI (St.opd ⟨sl, own, h⟩ y) with
  | none => rfl
  | some add =>
    simp only [onO_some]
    cases evAppend (St.look cx ⟨sl, own, h⟩) tI (St.opd ⟨sl, own, h⟩ x) add <;> rfl
def elemsB (b : Option Blk) (len : Nat) : Option (List AV) := match b with
  | some ⟨.arr _ t', v⟩ => match v.toList with
      | some l => if tI = t' ∧ len ≤ l.length then some (l.take len) else none
      | none => none
  | _ => none
@[go_sem] theorem elems_sl (L : Id → Option Blk) (j : Id) (len : Nat) : elems L tI (.sl j 0 len) = elemsB (L j) len := by
  simp only [elems, elemsB, Nat.zero_add, List.drop_zero]
  cases L j with
  | none => rfl
  | some b => obtain ⟨bt, bv⟩ := b; cases bt <;> rfl
@[go_sem] theorem elemsB_one (n : Int) : elemsB (some ⟨.arr 1 tI, encL [n]⟩) 1 = some [.int .i64 n] := by
  simp [elemsB, encL_toList]
@[go_sem] theorem WA_nil {n : Int} {d : Nat} : WA T cx .nilsl (some [.int .i64 n]) d r kill k sl own h Q =
    W T cx (.ops r kill :: k) ⟨(Slots.forget sl (.stk cx.lvl d)).set d (.sl (.stk cx.lvl d) 0 1), own.set d ⟨.arr 1 tI, encL [n]⟩, h⟩ Q := by
  have hf := encL_fits [n] (n := 1) rfl
  simp only [WA, onO_some, evAppend, List.length_cons, List.length_nil, Nat.zero_add]
  rw [if_neg (by omega), if_pos ⟨hf, by omega⟩]
  rfl
theorem WA_grow {d len : Nat} {n : Int} {l : List Int} (hb : own.get d = some ⟨.arr len tI, encL l⟩) (hl : l.length = len) (hm : len + 1 ≤ 1048576) : WA T cx (.sl (.stk cx.lvl d) 0 len) (some [.int .i64 n]) d r kill k sl own h Q =
    W T cx (.ops r kill :: k) ⟨(Slots.forget sl (.stk cx.lvl d)).set d (.sl (.stk cx.lvl d) 0 (len + 1)), (own.rid d).set d ⟨.arr (len + 1) tI, encL (l ++ [n])⟩, h⟩ Q := by
  have hf := encL_fits (l ++ [n]) (n := len + 1) (by simp [hl])
  have e : List.map (AV.int .i64) (l ++ [n]) = (List.map (AV.int .i64) l).take len ++ [.int .i64 n] := by
    rw [List.map_append, List.take_of_length_le (by simp [hl])]; rfl
  simp only [encL, e] at hf ⊢
  simp only [WA, onO_some, evAppend, look_own, hb, encL_toList, List.length_map, List.length_cons, List.length_nil, Nat.zero_add, List.drop_zero, if_true]
  rw [if_neg (by omega), if_pos (by omega), if_pos ⟨hf, hm⟩]
  simp only [onO_some, applyEff, St.drop, Id.own, if_true, Option.map_some]
  rfl
@[go_sem] theorem rid_nil (t : Nat) : Own.rid [] t = [] := rfl
@[go_sem] theorem rid_cons (t u : Nat) (v : Blk) (s : Own) : Own.rid ((t, v) :: s) u = if t = u then Own.rid s u else (t, v) :: Own.rid s u := rfl
def SlI (L : Id → Option Blk) (y : AV) (l : List Int) : Prop := (y = .nilsl ∧ l = []) ∨ ∃ p n k, y = .sl p 0 k ∧ k = l.length ∧ p.below cx.lvl ∧ L p = some ⟨.arr n tI, encL l⟩
theorem Index_ok {y : AV} {l : List Int} {x : Int} (hl : l.length ≤ 1048576) (hy : SlI (cx := cx) h.look y l) :
    Ok tbl cx Fn.slices_Index (St.enter [y, .int .i64 x] h) fun v h' => v = .int .i64 (findN l.length fun i => decide (x = l.getD i 0)) ∧ h' = h := by
  rw [Ok_eq]
  obtain ⟨rfl, rfl⟩ | ⟨p, n, _, rfl, rfl, hb, hp⟩ := hy
  · simp (config := { maxSteps := 1000000 }) (disch := omega) only [go_sem, W_round, W_again]
    rfl
  · simp (config := { maxSteps := 1000000 }) (disch := omega) only [go_sem]
    refine W_forP l.length (fun j => ⟨[(0, .sl p 0 l.length), (1, .int .i64 x), (7, .int .i64 l.length), (8, .int .i64 j)], [], h⟩) (fun j => ∀ i, i < j → decide (x = l.getD i 0) = false) (by simp only [go_sem] <;> rfl) (fun i hi => by omega) fun j hj hq ih => ?_
    by_cases hlt : j < l.length
    · have hrd : h.rd p [j] = some (.int .i64 (l.getD j 0)) := by
        simp only [HP.rd, hp, Option.bind_some, encL_at l hlt]
        simp [hlt]
      simp (config := { maxSteps := 1000000 }) (disch := omega) only [go_sem, hlt, look_ext hb, hp, rd_ext hb, hrd]
      by_cases h1 : x = l.getD j 0
      · simp (config := { maxSteps := 1000000 }) (disch := omega) only [go_sem, h1]
        rw [findN_at (j := j) (fun i hi => by rw [← h1]; exact hq i hi) (by simp) hlt]
      · simp (config := { maxSteps := 1000000 }) (disch := omega) only [go_sem, h1]
        refine ih _ hlt (step_all hq (by simpa using h1)) ?_
        simp only [go_sem]
    · obtain rfl : j = l.length := by omega
      simp (config := { maxSteps := 1000000 }) (disch := omega) only [go_sem]
      rw [findN_none hq]
theorem Contains_ok {y : AV} {l : List Int} {x : Int} (hl : l.length ≤ 1048576) (hy : SlI (cx := cx) h.look y l) :
    Ok tbl cx Fn.slices_Contains (St.enter [y, .int .i64 x] h) fun v h' => v = .bool (l.contains x) ∧ h' = h := by
  rw [Ok_eq]
  simp (config := { maxSteps := 1000000 }) (disch := omega) only [go_sem]
  refine W_callp rfl ⟨rfl, rfl⟩ (by
    simp only [go_sem]
    refine Index_ok (l := l) hl ?_
    obtain ⟨rfl, rfl⟩ | ⟨p, n, _, rfl, rfl, hb, hp⟩ := hy
    · exact .inl ⟨rfl, rfl⟩
    · refine .inr ⟨p, n, _, rfl, rfl, hb.succ, ?_⟩
      rw [← hp]
      cases p <;> simp only [HP.look, HP.push]
      simp only [Id.below] at hb
      rw [if_neg (by omega)]) ?_
  simp (config := { maxSteps := 1000000 }) (disch := omega) only [go_sem]
  congr 1
  rw [Bool.eq_iff_iff, decide_eq_true_eq, List.contains_iff_mem]
  constructor
  · intro h0
    obtain e | ⟨j, hj, e, h1, _⟩ := findN_lt (n := l.length) (f := fun i => decide (x = l.getD i 0))
    · omega
    · have : x = l.getD j 0 := by simpa using h1
      rw [this]; simp [hj]
  · intro hm
    obtain ⟨j, hj, e⟩ := List.getElem_of_mem hm
    obtain h1 | ⟨j', hj', e', h1, _⟩ := findN_lt (n := l.length) (f := fun i => decide (x = l.getD i 0))
    · have h2 := findN_neg h1 j hj
      simp [hj, e] at h2
    · omega
end
end Go.Mini

namespace Go.Mini
set_option linter.unusedSimpArgs false
set_option linter.unusedVariables false
set_option maxHeartbeats 4000000
set_option maxRecDepth 100000
def stampsN (m : Img) : Nat → List Int
  | 0 => []
  | n + 1 => if (m.ino n).live = true then stampsN m n ++ [(m.ino n).stamp] else stampsN m n
def seenN (m : Img) : Nat → List Int
  | 0 => []
  | n + 1 => if (m.ino n).live = true then seenN m n ++ [(m.ino n).prt 0] ++ [(m.ino n).prt 1] else seenN m n
def badAt (m : Img) (n : Nat) : Bool :=
  (m.ino n).live && ((stampsN m n).contains (m.ino n).stamp || (decide (0 ≤ (m.ino n).prt 0) && (seenN m n).contains ((m.ino n).prt 0)) || (decide (0 ≤ (m.ino n).prt 1) && (seenN m n ++ [(m.ino n).prt 0]).contains ((m.ino n).prt 1)))
def twice (m : Img) : Bool := anyN 8 (badAt m)
theorem stampsN_len (m : Img) : ∀ n, (stampsN m n).length ≤ n
  | 0 => Nat.le_refl _
  | n + 1 => by
    have := stampsN_len m n
    simp only [stampsN]; split <;> simp <;> omega
theorem seenN_len (m : Img) : ∀ n, (seenN m n).length ≤ 2 * n
  | 0 => Nat.le_refl _
  | n + 1 => by
    have := seenN_len m n
    simp only [seenN]; split <;> simp <;> omega
theorem nil_both (m : Img) : ∀ n, stampsN m n = [] ↔ seenN m n = []
  | 0 => by simp [stampsN, seenN]
  | n + 1 => by
    simp only [stampsN, seenN]; split
    · simp
    · exact nil_both m n
def slV (l d : Nat) (a : List Int) : AV := if a = [] then .nilsl else .sl (.stk l d) 0 a.length
def ownL (a b : List Int) : Own := if a = [] then [] else [(27, ⟨.arr a.length tI, encL a⟩), (43, ⟨.arr b.length tI, encL b⟩)]
section
variable {cx : Cx} {h : HP} {p p' : Id} {q q' : List Nat} {m m' : Img}
theorem twice_ok (hb : p.below cx.lvl) (hm : h.rd p q = some m.enc) :
    Ok tbl cx Fn.image_twice (St.enter [.ptr p q tImage] h) fun v h' => v = .bool (twice m) ∧ h' = h := by
  rw [Ok_eq]
  simp (config := { maxSteps := 1000000 }) (disch := omega) only [go_sem, rd_ext hb, HP.rd_app hm, fg_ptr hb, leads_ptr hb, apart_ptr hb]
  refine W_forP 8 (fun n => ⟨[(3, slV cx.lvl 43 (seenN m n)), (4, slV cx.lvl 27 (stampsN m n)), (12, encV Ino.enc m.inode), (13, .int .i64 n)], ownL (stampsN m n) (seenN m n), h⟩) (fun n => ∀ i, i < n → badAt m i = false) (by simp only [go_sem, slV, ownL, stampsN, seenN] <;> rfl) (fun i hi => by omega) fun n hn hp ih => ?_
  by_cases hlt : n < 8
  · by_cases hl : (m.ino n).live = true
    · have bad : ∀ c, ((stampsN m n).contains (m.ino n).stamp || (decide (0 ≤ (m.ino n).prt 0) && (seenN m n).contains ((m.ino n).prt 0)) || (decide (0 ≤ (m.ino n).prt 1) && (seenN m n ++ [(m.ino n).prt 0]).contains ((m.ino n).prt 1))) = c → badAt m n = c := by
        intro c hc; simp only [badAt, hl, Bool.true_and]; exact hc
      have tw : badAt m n = true → twice m = true := fun hb => anyN_at hlt hb
      have e1 : stampsN m (n + 1) = stampsN m n ++ [(m.ino n).stamp] := by simp only [stampsN, hl, if_true]
      have e2 : seenN m (n + 1) = seenN m n ++ [(m.ino n).prt 0] ++ [(m.ino n).prt 1] := by simp only [seenN, hl, if_true]
      have l1 := stampsN_len m n
      have l2 := seenN_len m n
      rw [e1, e2] at ih
      have hboth := nil_both m n
      generalize stampsN m n = A at *
      generalize seenN m n = B at *
      by_cases hA : A = []
      · have hB := hboth.1 hA
        subst hA; subst hB
        simp only [slV, ownL, if_true]
        simp (config := { maxSteps := 1000000 }) (disch := omega) only [go_sem, hlt, hl]
        refine W_callp rfl ⟨rfl, rfl⟩ (by simp only [go_sem]; exact Contains_ok (l := []) (by simp) (.inl ⟨rfl, rfl⟩)) ?_
        simp (config := { maxSteps := 1000000 }) (disch := omega) only [go_sem, List.contains_nil, W_round]
        by_cases c0 : 0 ≤ (m.ino n).prt 0
        · simp (config := { maxSteps := 1000000 }) (disch := omega) only [go_sem, c0]
          refine W_callp rfl ⟨rfl, rfl⟩ (by simp only [go_sem]; exact Contains_ok (l := []) (by simp) (.inl ⟨rfl, rfl⟩)) ?_
          simp (config := { maxSteps := 1000000 }) (disch := omega) only [go_sem, List.contains_nil, W_again (a := [3, 4, 12, 13, 29, 30])]
          by_cases c1 : 0 ≤ (m.ino n).prt 1
          · simp (config := { maxSteps := 1000000 }) (disch := omega) only [go_sem, c1]
            refine W_callp rfl ⟨rfl, rfl⟩ (by simp only [go_sem]; exact Contains_ok (l := [(m.ino n).prt 0]) (by simp only [List.length_append, List.length_cons, List.length_nil] at *; omega) (.inr ⟨_, _, _, rfl, by simp, below_stk _ _, by simp only [HP.push_look_own]; rfl⟩)) ?_
            simp (config := { maxSteps := 1000000 }) (disch := omega) only [go_sem, c1]
            refine WC_intro (fun h4 => ?_) (fun h4 => ?_)
            · simp (config := { maxSteps := 1000000 }) (disch := omega) only [go_sem]
              rw [tw (bad _ (by simp only [h4, c1, List.nil_append, decide_true, Bool.true_and, Bool.or_true]))]
            · simp (config := { maxSteps := 1000000 }) (disch := omega) only [go_sem]
              rw [WA_grow (len := 1) (d := 43) (l := [(m.ino n).prt 0]) rfl rfl (by omega)]
              simp (config := { maxSteps := 1000000 }) (disch := omega) only [go_sem, W_again (a := [3, 4, 12, 13, 29, 30])]
              refine ih _ hlt (step_all hp (bad _ (by simp only [h4, c1, List.nil_append, List.contains_nil, decide_true, decide_false, Bool.false_and, Bool.true_and, Bool.or_false, Bool.and_false, Bool.false_or]))) ?_
              simp [St.keep, Slots.only, Own.only, has, slV, ownL]
          · simp (config := { maxSteps := 1000000 }) (disch := omega) only [go_sem, c1]
            rw [WA_grow (len := 1) (d := 43) (l := [(m.ino n).prt 0]) rfl rfl (by omega)]
            simp (config := { maxSteps := 1000000 }) (disch := omega) only [go_sem, W_again (a := [3, 4, 12, 13, 29, 30])]
            refine ih _ hlt (step_all hp (bad _ (by simp only [c1, List.nil_append, List.contains_nil, decide_false, Bool.false_and, Bool.or_false, Bool.and_false, Bool.false_or]))) ?_
            simp [St.keep, Slots.only, Own.only, has, slV, ownL]

        · simp (config := { maxSteps := 1000000 }) (disch := omega) only [go_sem, c0, W_again (a := [3, 4, 12, 13, 29, 30])]
          by_cases c1 : 0 ≤ (m.ino n).prt 1
          · simp (config := { maxSteps := 1000000 }) (disch := omega) only [go_sem, c1]
            refine W_callp rfl ⟨rfl, rfl⟩ (by simp only [go_sem]; exact Contains_ok (l := [(m.ino n).prt 0]) (by simp only [List.length_append, List.length_cons, List.length_nil] at *; omega) (.inr ⟨_, _, _, rfl, by simp, below_stk _ _, by simp only [HP.push_look_own]; rfl⟩)) ?_
            simp (config := { maxSteps := 1000000 }) (disch := omega) only [go_sem, c1]
            refine WC_intro (fun h4 => ?_) (fun h4 => ?_)
            · simp (config := { maxSteps := 1000000 }) (disch := omega) only [go_sem]
              rw [tw (bad _ (by simp only [c0, h4, c1, List.nil_append, decide_true, Bool.true_and, Bool.or_true]))]
            · simp (config := { maxSteps := 1000000 }) (disch := omega) only [go_sem]
              rw [WA_grow (len := 1) (d := 43) (l := [(m.ino n).prt 0]) rfl rfl (by omega)]
              simp (config := { maxSteps := 1000000 }) (disch := omega) only [go_sem, W_again (a := [3, 4, 12, 13, 29, 30])]
              refine ih _ hlt (step_all hp (bad _ (by simp only [c0, h4, c1, List.nil_append, List.contains_nil, decide_true, decide_false, Bool.false_and, Bool.true_and, Bool.or_false, Bool.and_false, Bool.false_or]))) ?_
              simp [St.keep, Slots.only, Own.only, has, slV, ownL]
          · simp (config := { maxSteps := 1000000 }) (disch := omega) only [go_sem, c1]
            rw [WA_grow (len := 1) (d := 43) (l := [(m.ino n).prt 0]) rfl rfl (by omega)]
            simp (config := { maxSteps := 1000000 }) (disch := omega) only [go_sem, W_again (a := [3, 4, 12, 13, 29, 30])]
            refine ih _ hlt (step_all hp (bad _ (by simp only [c0, c1, List.nil_append, List.contains_nil, decide_false, Bool.false_and, Bool.or_false, Bool.and_false, Bool.false_or]))) ?_
            simp [St.keep, Slots.only, Own.only, has, slV, ownL]

      · have hB : ¬B = [] := fun h => hA (hboth.2 h)
        simp only [slV, ownL, hA, hB, if_false]
        simp (config := { maxSteps := 1000000 }) (disch := omega) only [go_sem, hlt, hl]
        refine W_callp rfl ⟨rfl, rfl⟩ (by simp only [go_sem]; exact Contains_ok (l := A) (by omega) (.inr ⟨_, _, _, rfl, by simp, below_stk _ _, by simp only [HP.push_look_own]; rfl⟩)) ?_
        simp (config := { maxSteps := 1000000 }) (disch := omega) only [go_sem]
        refine WC_intro (fun h2 => ?_) (fun h2 => ?_)
        · simp (config := { maxSteps := 1000000 }) (disch := omega) only [go_sem]
          rw [tw (bad _ (by simp only [h2, Bool.true_or]))]
        simp (config := { maxSteps := 1000000 }) (disch := omega) only [go_sem]
        rw [WA_grow (l := A) rfl rfl (by omega)]
        simp (config := { maxSteps := 1000000 }) (disch := omega) only [go_sem, W_round]
        by_cases c0 : 0 ≤ (m.ino n).prt 0
        · simp (config := { maxSteps := 1000000 }) (disch := omega) only [go_sem, c0]
          refine W_callp rfl ⟨rfl, rfl⟩ (by simp only [go_sem]; exact Contains_ok (l := B) (by omega) (.inr ⟨_, _, _, rfl, by simp, below_stk _ _, by simp only [HP.push_look_own]; rfl⟩)) ?_
          simp (config := { maxSteps := 1000000 }) (disch := omega) only [go_sem]
          refine WC_intro (fun h3 => ?_) (fun h3 => ?_)
          · simp (config := { maxSteps := 1000000 }) (disch := omega) only [go_sem]
            rw [tw (bad _ (by simp only [h3, c0, decide_true, Bool.true_and, Bool.true_or, Bool.or_true]))]
          simp (config := { maxSteps := 1000000 }) (disch := omega) only [go_sem]
          rw [WA_grow (l := B) rfl rfl (by omega)]
          simp (config := { maxSteps := 1000000 }) (disch := omega) only [go_sem, W_again (a := [3, 4, 12, 13, 29, 30])]
          by_cases c1 : 0 ≤ (m.ino n).prt 1
          · simp (config := { maxSteps := 1000000 }) (disch := omega) only [go_sem, c1]
            refine W_callp rfl ⟨rfl, rfl⟩ (by simp only [go_sem]; exact Contains_ok (l := B ++ [(m.ino n).prt 0]) (by simp only [List.length_append, List.length_cons, List.length_nil] at *; omega) (.inr ⟨_, _, _, rfl, by simp, below_stk _ _, by simp only [HP.push_look_own]; rfl⟩)) ?_
            simp (config := { maxSteps := 1000000 }) (disch := omega) only [go_sem, c1]
            refine WC_intro (fun h4 => ?_) (fun h4 => ?_)
            · simp (config := { maxSteps := 1000000 }) (disch := omega) only [go_sem]
              rw [tw (bad _ (by simp only [h2, h3, c0, h4, c1, List.nil_append, decide_true, Bool.true_and, Bool.or_true]))]
            · simp (config := { maxSteps := 1000000 }) (disch := omega) only [go_sem]
              rw [WA_grow (len := B.length + 1) (d := 43) (l := B ++ [(m.ino n).prt 0]) rfl (by simp) (by omega)]
              simp (config := { maxSteps := 1000000 }) (disch := omega) only [go_sem, W_again (a := [3, 4, 12, 13, 29, 30])]
              refine ih _ hlt (step_all hp (bad _ (by simp only [h2, h3, c0, h4, c1, List.nil_append, List.contains_nil, decide_true, decide_false, Bool.false_and, Bool.true_and, Bool.or_false, Bool.and_false, Bool.false_or]))) ?_
              simp [St.keep, Slots.only, Own.only, has, slV, ownL]
          · simp (config := { maxSteps := 1000000 }) (disch := omega) only [go_sem, c1]
            rw [WA_grow (len := B.length + 1) (d := 43) (l := B ++ [(m.ino n).prt 0]) rfl (by simp) (by omega)]
            simp (config := { maxSteps := 1000000 }) (disch := omega) only [go_sem, W_again (a := [3, 4, 12, 13, 29, 30])]
            refine ih _ hlt (step_all hp (bad _ (by simp only [h2, h3, c0, c1, List.nil_append, List.contains_nil, decide_false, Bool.false_and, Bool.or_false, Bool.and_false, Bool.false_or]))) ?_
            simp [St.keep, Slots.only, Own.only, has, slV, ownL]

        · simp (config := { maxSteps := 1000000 }) (disch := omega) only [go_sem, c0]
          rw [WA_grow (l := B) rfl rfl (by omega)]
          simp (config := { maxSteps := 1000000 }) (disch := omega) only [go_sem, W_again (a := [3, 4, 12, 13, 29, 30])]
          by_cases c1 : 0 ≤ (m.ino n).prt 1
          · simp (config := { maxSteps := 1000000 }) (disch := omega) only [go_sem, c1]
            refine W_callp rfl ⟨rfl, rfl⟩ (by simp only [go_sem]; exact Contains_ok (l := B ++ [(m.ino n).prt 0]) (by simp only [List.length_append, List.length_cons, List.length_nil] at *; omega) (.inr ⟨_, _, _, rfl, by simp, below_stk _ _, by simp only [HP.push_look_own]; rfl⟩)) ?_
            simp (config := { maxSteps := 1000000 }) (disch := omega) only [go_sem, c1]
            refine WC_intro (fun h4 => ?_) (fun h4 => ?_)
            · simp (config := { maxSteps := 1000000 }) (disch := omega) only [go_sem]
              rw [tw (bad _ (by simp only [h2, c0, h4, c1, List.nil_append, decide_true, Bool.true_and, Bool.or_true]))]
            · simp (config := { maxSteps := 1000000 }) (disch := omega) only [go_sem]
              rw [WA_grow (len := B.length + 1) (d := 43) (l := B ++ [(m.ino n).prt 0]) rfl (by simp) (by omega)]
              simp (config := { maxSteps := 1000000 }) (disch := omega) only [go_sem, W_again (a := [3, 4, 12, 13, 29, 30])]
              refine ih _ hlt (step_all hp (bad _ (by simp only [h2, c0, h4, c1, List.nil_append, List.contains_nil, decide_true, decide_false, Bool.false_and, Bool.true_and, Bool.or_false, Bool.and_false, Bool.false_or]))) ?_
              simp [St.keep, Slots.only, Own.only, has, slV, ownL]
          · simp (config := { maxSteps := 1000000 }) (disch := omega) only [go_sem, c1]
            rw [WA_grow (len := B.length + 1) (d := 43) (l := B ++ [(m.ino n).prt 0]) rfl (by simp) (by omega)]
            simp (config := { maxSteps := 1000000 }) (disch := omega) only [go_sem, W_again (a := [3, 4, 12, 13, 29, 30])]
            refine ih _ hlt (step_all hp (bad _ (by simp only [h2, c0, c1, List.nil_append, List.contains_nil, decide_false, Bool.false_and, Bool.or_false, Bool.and_false, Bool.false_or]))) ?_
            simp [St.keep, Slots.only, Own.only, has, slV, ownL]

    · simp only [Bool.not_eq_true] at hl
      have e1 : stampsN m (n + 1) = stampsN m n := by simp only [stampsN, hl, Bool.false_eq_true, if_false]
      have e2 : seenN m (n + 1) = seenN m n := by simp only [seenN, hl, Bool.false_eq_true, if_false]
      rw [e1, e2] at ih
      have hboth := nil_both m n
      generalize stampsN m n = A at *
      generalize seenN m n = B at *
      by_cases hA : A = []
      · have hB := hboth.1 hA
        subst hA; subst hB
        simp only [slV, ownL, if_true]
        simp (config := { maxSteps := 1000000 }) (disch := omega) only [go_sem, hlt, hl]
        refine ih _ hlt (step_all hp (by simp [badAt, hl])) ?_
        simp [St.keep, Slots.only, Own.only, has, slV, ownL]
      · have hB : ¬B = [] := fun h => hA (hboth.2 h)
        simp only [slV, ownL, hA, hB, if_false]
        simp (config := { maxSteps := 1000000 }) (disch := omega) only [go_sem, hlt, hl]
        refine ih _ hlt (step_all hp (by simp [badAt, hl])) ?_
        simp [St.keep, Slots.only, Own.only, has, slV, ownL, hA, hB]
  · obtain rfl : n = 8 := by omega
    have : twice m = false := anyN_false.2 hp
    rw [this]
    have hboth := nil_both m 8
    generalize stampsN m 8 = A at *
    generalize seenN m 8 = B at *
    by_cases hA : A = []
    · have hB := hboth.1 hA
      subst hA; subst hB
      simp only [slV, ownL, if_true]
      simp (config := { maxSteps := 1000000 }) (disch := omega) only [go_sem]
    · have hB : ¬B = [] := fun h => hA (hboth.2 h)
      simp only [slV, ownL, hA, hB, if_false]
      simp (config := { maxSteps := 1000000 }) (disch := omega) only [go_sem]
end
end Go.Mini

namespace Go.Mini
set_option linter.unusedSimpArgs false
set_option linter.unusedVariables false
set_option maxHeartbeats 4000000
set_option maxRecDepth 100000
def Img.small (m : Img) : Prop := ∀ d s, (m.ent d s).name.size ≤ 100000
def entryFault (m : Img) (d s : Nat) : Int :=
  let e := m.ent d s
  if e.name = ⟨#[]⟩ then (if e = Ent.zero then 0 else 12)
  else if isName e.name = false then 2
  else if anyN s (fun k => decide ((m.ent d k).name = e.name)) = true then 4
  else if e.ino < 0 ∨ 8 ≤ e.ino then 1
  else if (m.ino e.ino.toNat).live = true ∧ (m.ino e.ino.toNat).stamp = e.stamp then 0 else 8
def partFault (m : Img) (i : Ino) (p : Nat) : Int :=
  if i.prt p < -1 ∨ 9 ≤ i.prt p then 1 else if 0 ≤ i.prt p ∧ ¬(m.dat (i.prt p).toNat).of = i.stamp then 10 else 0
def inoFault (m : Img) (n : Nat) : Int :=
  let i := m.ino n
  if i.live = false then (if i = Ino.none then 0 else 12)
  else if i.stamp < 1 ∨ i.links < refs m n then 9
  else firstI 2 (partFault m i)
def dirFault (m : Img) (d : Nat) : Int := firstI 4 (entryFault m d)
def check (m : Img) : Int :=
  if firstI 3 (dirFault m) ≠ 0 then firstI 3 (dirFault m)
  else if firstI 8 (inoFault m) ≠ 0 then firstI 8 (inoFault m)
  else if twice m = true then 11 else 0
section
variable {cx : Cx} {h : HP} {p p' : Id} {q q' : List Nat} {m m' : Img}
theorem entry_ok {d s : Nat} (hd : d < 3) (hs : s < 4) (hg : m.small) (hb : p.below cx.lvl) (hm : h.rd p q = some m.enc) :
    Ok tbl cx Fn.image_entry (St.enter [.ptr p q tImage, .int .i64 d, .int .i64 s] h) fun v h' => v = .int .i64 (entryFault m d s) ∧ h' = h := by
  rw [Ok_eq]
  simp (config := { maxSteps := 1000000 }) (disch := omega) only [go_sem, rd_ext hb, HP.rd_app hm, fg_ptr hb, leads_ptr hb, apart_ptr hb]
  by_cases h1 : (m.ent d s).name = ⟨#[]⟩
  · simp (config := { maxSteps := 1000000 }) (disch := omega) only [go_sem, h1]
    by_cases h2 : m.ent d s = Ent.zero
    · simp (config := { maxSteps := 1000000 }) (disch := omega) only [go_sem, h2]; simp [entryFault, h2, show Ent.zero.name = ⟨#[]⟩ from rfl]
    · simp (config := { maxSteps := 1000000 }) (disch := omega) only [go_sem, h2]; simp [entryFault, h1, h2]
  simp (config := { maxSteps := 1000000 }) (disch := omega) only [go_sem, h1]
  refine W_callp rfl ⟨rfl, rfl⟩ (by simp only [go_sem]; exact Name_ok (hg d s)) ?_
  simp (config := { maxSteps := 1000000 }) (disch := omega) only [go_sem, rd_ext hb, HP.rd_app hm, fg_ptr hb, leads_ptr hb, apart_ptr hb]
  cases h2 : isName (m.ent d s).name with
  | false => simp (config := { maxSteps := 1000000 }) (disch := omega) only [go_sem, h2]; simp [entryFault, h1, h2]
  | true =>
    simp (config := { maxSteps := 1000000 }) (disch := omega) only [go_sem, h2]
    refine W_forP s (fun j => ⟨[(0, .ptr p q tImage), (1, .int .i64 d), (7, .ptr (.stk cx.lvl 7) [] tEntry), (28, .int .i64 s), (29, .int .i64 j)], [(7, ⟨tEntry, (m.ent d s).enc⟩)], h⟩) (fun j => ∀ i, i < j → decide ((m.ent d i).name = (m.ent d s).name) = false) (by simp only [go_sem] <;> rfl) (fun i hi => by omega) fun j hj hp ih => ?_
    by_cases hlt : j < s
    · simp (config := { maxSteps := 1000000 }) (disch := omega) only [go_sem, hlt, rd_ext hb, HP.rd_app hm, fg_ptr hb, leads_ptr hb, apart_ptr hb]
      by_cases h3 : (m.ent d j).name = (m.ent d s).name
      · simp (config := { maxSteps := 1000000 }) (disch := omega) only [go_sem, h3]
        have : anyN s (fun k => decide ((m.ent d k).name = (m.ent d s).name)) = true := anyN_at hlt (by simp [h3])
        simp [entryFault, h1, h2, this]
      · simp (config := { maxSteps := 1000000 }) (disch := omega) only [go_sem, h3]
        refine ih _ hlt (step_all hp (by simp [h3])) ?_
        simp only [go_sem]
    · obtain rfl : j = s := by omega
      have h3 : anyN j (fun k => decide ((m.ent d k).name = (m.ent d j).name)) = false := anyN_false.2 hp
      simp (config := { maxSteps := 1000000 }) (disch := omega) only [go_sem]
      by_cases h4 : (m.ent d j).ino < 0
      · simp (config := { maxSteps := 1000000 }) (disch := omega) only [go_sem, h4]; simp [entryFault, h1, h2, h3, h4]
      by_cases h5 : 8 ≤ (m.ent d j).ino
      · simp (config := { maxSteps := 1000000 }) (disch := omega) only [go_sem, h4, h5]; simp [entryFault, h1, h2, h3, h5]
      simp (config := { maxSteps := 1000000 }) (disch := omega) only [go_sem, h4, h5, rd_ext hb, HP.rd_app hm, fg_ptr hb, leads_ptr hb, apart_ptr hb]
      have h45 : ¬((m.ent d j).ino < 0 ∨ 8 ≤ (m.ent d j).ino) := by omega
      cases h6 : (m.ino (m.ent d j).ino.toNat).live with
      | false => simp (config := { maxSteps := 1000000 }) (disch := omega) only [go_sem, h6]; simp [entryFault, h1, h2, h3, h45, h6]
      | true =>
        by_cases h7 : (m.ino (m.ent d j).ino.toNat).stamp = (m.ent d j).stamp
        · simp (config := { maxSteps := 1000000 }) (disch := omega) only [go_sem, h6, h7]; simp [entryFault, h1, h2, h3, h45, h6, h7]
        · simp (config := { maxSteps := 1000000 }) (disch := omega) only [go_sem, h6, h7]; simp [entryFault, h1, h2, h3, h45, h6, h7]
theorem inode_ok {n : Nat} (hn : n < 8) (hb : p.below cx.lvl) (hm : h.rd p q = some m.enc) :
    Ok tbl cx Fn.image_inode (St.enter [.ptr p q tImage, .int .i64 n] h) fun v h' => v = .int .i64 (inoFault m n) ∧ h' = h := by
  rw [Ok_eq]
  simp (config := { maxSteps := 1000000 }) (disch := omega) only [go_sem, rd_ext hb, HP.rd_app hm, fg_ptr hb, leads_ptr hb, apart_ptr hb]
  cases h1 : (m.ino n).live with
  | false =>
    simp (config := { maxSteps := 1000000 }) (disch := omega) only [go_sem, h1, rd_ext hb, HP.rd_app hm, fg_ptr hb, leads_ptr hb, apart_ptr hb]
    refine W_callp rfl ⟨rfl, rfl⟩ (by simp only [go_sem]; exact Free_ok) ?_
    by_cases h2 : m.ino n = Ino.none
    · simp (config := { maxSteps := 1000000 }) (disch := omega) only [go_sem, h2]; simp [inoFault, h2, show Ino.none.live = false from rfl]
    · simp (config := { maxSteps := 1000000 }) (disch := omega) only [go_sem, h2]; simp [inoFault, h1, h2]
  | true =>
    simp (config := { maxSteps := 1000000 }) (disch := omega) only [go_sem, h1, rd_ext hb, HP.rd_app hm, fg_ptr hb, leads_ptr hb, apart_ptr hb]
    by_cases h2 : (m.ino n).stamp < 1
    · simp (config := { maxSteps := 1000000 }) (disch := omega) only [go_sem, h2]; simp [inoFault, h1, h2]
    simp (config := { maxSteps := 1000000 }) (disch := omega) only [go_sem, h2]
    refine W_callp rfl ⟨rfl, rfl⟩ (by simp only [go_sem]; exact Refs_ok (m := m) hb.succ (by simp only [HP.push_rd_ext hb, hm])) ?_
    simp (config := { maxSteps := 1000000 }) (disch := omega) only [go_sem, h2]
    by_cases h3 : (m.ino n).links < refs m n
    · simp (config := { maxSteps := 1000000 }) (disch := omega) only [go_sem, h2, h3]; simp [inoFault, h1, h3]
    have h23 : ¬((m.ino n).stamp < 1 ∨ (m.ino n).links < refs m n) := by simp only [not_or]; exact ⟨h2, h3⟩
    have e : inoFault m n = firstI 2 (partFault m (m.ino n)) := by simp only [inoFault, h1, Bool.true_eq_false, if_false, h23]
    simp (config := { maxSteps := 1000000 }) (disch := omega) only [go_sem, h3]
    refine W_forP 2 (fun j => ⟨[(0, .ptr p q tImage), (5, .ptr (.stk cx.lvl 5) [] tInode), (32, encV (AV.int .i64) (m.ino n).part), (33, .int .i64 j)], [(5, ⟨tInode, (m.ino n).enc⟩)], h⟩) (fun j => ∀ i, i < j → partFault m (m.ino n) i = 0) (by simp only [go_sem] <;> rfl) (fun i hi => by omega) fun j hj hp ih => ?_
    by_cases hlt : j < 2
    · simp (config := { maxSteps := 1000000 }) (disch := omega) only [go_sem, hlt, rd_ext hb, HP.rd_app hm, fg_ptr hb, leads_ptr hb, apart_ptr hb]
      by_cases h4 : (m.ino n).prt j < -1
      · simp (config := { maxSteps := 1000000 }) (disch := omega) only [go_sem, h4]
        have : partFault m (m.ino n) j = 1 := by simp [partFault, h4]
        rw [e, firstI_at hp (by rw [this]; decide) hlt, this]
      by_cases h5 : 9 ≤ (m.ino n).prt j
      · simp (config := { maxSteps := 1000000 }) (disch := omega) only [go_sem, h4, h5]
        have : partFault m (m.ino n) j = 1 := by simp [partFault, h5]
        rw [e, firstI_at hp (by rw [this]; decide) hlt, this]
      have h45 : ¬((m.ino n).prt j < -1 ∨ 9 ≤ (m.ino n).prt j) := by omega
      by_cases h6 : 0 ≤ (m.ino n).prt j
      · by_cases h7 : (m.dat ((m.ino n).prt j).toNat).of = (m.ino n).stamp
        · simp (config := { maxSteps := 1000000 }) (disch := omega) only [go_sem, h4, h5, h6, rd_ext hb, HP.rd_app hm, fg_ptr hb, leads_ptr hb, apart_ptr hb, h7]
          refine ih _ hlt (step_all hp (by simp [partFault, h45, h7])) ?_
          simp only [go_sem]
        · simp (config := { maxSteps := 1000000 }) (disch := omega) only [go_sem, h4, h5, h6, rd_ext hb, HP.rd_app hm, fg_ptr hb, leads_ptr hb, apart_ptr hb, h7]
          have : partFault m (m.ino n) j = 10 := by simp only [partFault, h45, h6, h7, if_false, not_false_eq_true, and_self, if_true]
          rw [e, firstI_at hp (by rw [this]; decide) hlt, this]
      · simp (config := { maxSteps := 1000000 }) (disch := omega) only [go_sem, h4, h5, h6, rd_ext hb, HP.rd_app hm, fg_ptr hb, leads_ptr hb, apart_ptr hb]
        refine ih _ hlt (step_all hp (by simp only [partFault, h45, h6, if_false, false_and])) ?_
        simp only [go_sem]
    · obtain rfl : j = 2 := by omega
      simp (config := { maxSteps := 1000000 }) (disch := omega) only [go_sem, e]
      rw [firstI_zero.2 hp]
theorem check_1 {d s : Nat} (h0 : ∀ i, i < d → dirFault m i = 0) (hd : d < 3) (h1 : ∀ i, i < s → entryFault m d i = 0) (hs : s < 4) (h2 : entryFault m d s ≠ 0) : check m = entryFault m d s := by
  have e1 : dirFault m d = entryFault m d s := firstI_at h1 h2 hs
  have e2 : firstI 3 (dirFault m) = dirFault m d := firstI_at h0 (by rw [e1]; exact h2) hd
  rw [check, if_pos (by rw [e2, e1]; exact h2), e2, e1]
theorem check_2 {n : Nat} (h0 : ∀ i, i < 3 → dirFault m i = 0) (h1 : ∀ i, i < n → inoFault m i = 0) (hn : n < 8) (h2 : inoFault m n ≠ 0) : check m = inoFault m n := by
  have e1 : firstI 8 (inoFault m) = inoFault m n := firstI_at h1 h2 hn
  rw [check, if_neg (by rw [firstI_zero.2 h0]; simp), if_pos (by rw [e1]; exact h2), e1]
theorem check_3 (h0 : ∀ i, i < 3 → dirFault m i = 0) (h1 : ∀ i, i < 8 → inoFault m i = 0) : check m = if twice m = true then 11 else 0 := by
  rw [check, if_neg (by rw [firstI_zero.2 h0]; simp), if_neg (by rw [firstI_zero.2 h1]; simp)]
theorem Check_ok (hg : m.small) (hb : p.below cx.lvl) (hm : h.rd p q = some m.enc) :
    Ok tbl cx Fn.image_Check (St.enter [.ptr p q tImage] h) fun v h' => v = .int .i64 (check m) ∧ h' = h := by
  rw [Ok_eq]
  simp (config := { maxSteps := 1000000 }) (disch := omega) only [go_sem]
  refine W_forP 3 (fun d => ⟨[(0, .ptr p q tImage), (8, .int .i64 d)], [], h⟩) (fun d => ∀ i, i < d → dirFault m i = 0) (by simp only [go_sem] <;> rfl) (fun i hi => by omega) fun d hd hp ih => ?_
  by_cases hlt : d < 3
  · simp (config := { maxSteps := 1000000 }) (disch := omega) only [go_sem]
    refine W_forP 4 (fun s => ⟨[(0, .ptr p q tImage), (3, .int .i64 d), (8, .int .i64 d), (11, .int .i64 s)], [], h⟩) (fun s => ∀ i, i < s → entryFault m d i = 0) (by simp only [go_sem] <;> rfl) (fun i hi => by omega) fun s hs hp' ih' => ?_
    by_cases hlt' : s < 4
    · simp (config := { maxSteps := 1000000 }) (disch := omega) only [go_sem]
      refine W_callp rfl ⟨rfl, rfl⟩ (by simp only [go_sem]; exact entry_ok (m := m) hlt hlt' hg hb.succ (by simp only [HP.push_rd_ext hb, hm])) ?_
      simp (config := { maxSteps := 1000000 }) (disch := omega) only [go_sem]
      by_cases h1 : entryFault m d s = 0
      · simp (config := { maxSteps := 1000000 }) (disch := omega) only [go_sem, h1]
        refine ih' _ hlt' (step_all hp' h1) ?_
        simp only [go_sem]
      · simp (config := { maxSteps := 1000000 }) (disch := omega) only [go_sem, h1]
        rw [check_1 hp hlt hp' hlt' h1]
    · obtain rfl : s = 4 := by omega
      simp (config := { maxSteps := 1000000 }) (disch := omega) only [go_sem]
      refine ih _ hlt (step_all hp (firstI_zero.2 hp')) ?_
      simp only [go_sem]
  · obtain rfl : d = 3 := by omega
    simp (config := { maxSteps := 1000000 }) (disch := omega) only [go_sem]
    refine W_forP 8 (fun n => ⟨[(0, .ptr p q tImage), (23, .int .i64 n)], [], h⟩) (fun n => ∀ i, i < n → inoFault m i = 0) (by simp only [go_sem] <;> rfl) (fun i hi => by omega) fun n hn hp' ih' => ?_
    by_cases hlt' : n < 8
    · simp (config := { maxSteps := 1000000 }) (disch := omega) only [go_sem]
      refine W_callp rfl ⟨rfl, rfl⟩ (by simp only [go_sem]; exact inode_ok (m := m) hlt' hb.succ (by simp only [HP.push_rd_ext hb, hm])) ?_
      simp (config := { maxSteps := 1000000 }) (disch := omega) only [go_sem]
      by_cases h1 : inoFault m n = 0
      · simp (config := { maxSteps := 1000000 }) (disch := omega) only [go_sem, h1]
        refine ih' _ hlt' (step_all hp' h1) ?_
        simp only [go_sem]
      · simp (config := { maxSteps := 1000000 }) (disch := omega) only [go_sem, h1]
        rw [check_2 hp hp' hlt' h1]
    · obtain rfl : n = 8 := by omega
      simp (config := { maxSteps := 1000000 }) (disch := omega) only [go_sem]
      refine W_callp rfl ⟨rfl, rfl⟩ (by simp only [go_sem]; exact twice_ok (m := m) hb.succ (by simp only [HP.push_rd_ext hb, hm])) ?_
      simp (config := { maxSteps := 1000000 }) (disch := omega) only [go_sem]
      have e := check_3 hp hp'
      cases h1 : twice m with
      | false => simp (config := { maxSteps := 1000000 }) (disch := omega) only [go_sem]; rw [e, h1]; rfl
      | true => simp (config := { maxSteps := 1000000 }) (disch := omega) only [go_sem]; rw [e, h1]; rfl
def exact (m : Img) : Bool := !anyN 8 (fun n => (m.ino n).live && (decide (refs m n = 0) || !decide ((m.ino n).links = refs m n))) && decide (check m = 0)
theorem Exact_ok (hg : m.small) (hb : p.below cx.lvl) (hm : h.rd p q = some m.enc) :
    Ok tbl cx Fn.image_Exact (St.enter [.ptr p q tImage] h) fun v h' => v = .bool (exact m) ∧ h' = h := by
  rw [Ok_eq]
  simp (config := { maxSteps := 1000000 }) (disch := omega) only [go_sem, rd_ext hb, HP.rd_app hm, fg_ptr hb, leads_ptr hb, apart_ptr hb]
  refine W_forP 8 (fun n => ⟨[(0, .ptr p q tImage), (9, encV Ino.enc m.inode), (10, .int .i64 n)], [], h⟩) (fun n => ∀ i, i < n → ((m.ino i).live && (decide (refs m i = 0) || !decide ((m.ino i).links = refs m i))) = false) (by simp only [go_sem] <;> rfl) (fun i hi => by omega) fun n hn hp ih => ?_
  by_cases hlt : n < 8
  · simp (config := { maxSteps := 1000000 }) (disch := omega) only [go_sem, hlt, rd_ext hb, HP.rd_app hm, fg_ptr hb, leads_ptr hb, apart_ptr hb]
    refine W_callp rfl ⟨rfl, rfl⟩ (by simp only [go_sem]; exact Refs_ok (m := m) hb.succ (by simp only [HP.push_rd_ext hb, hm])) ?_
    simp (config := { maxSteps := 1000000 }) (disch := omega) only [go_sem]
    cases h1 : (m.ino n).live with
    | false =>
      simp (config := { maxSteps := 1000000 }) (disch := omega) only [go_sem, h1]
      refine ih _ hlt (step_all hp (by simp [h1])) ?_
      simp only [go_sem]
    | true =>
      by_cases h2 : refs m n = 0
      · simp (config := { maxSteps := 1000000 }) (disch := omega) only [go_sem, h1]
        have : anyN 8 (fun n => (m.ino n).live && (decide (refs m n = 0) || !decide ((m.ino n).links = refs m n))) = true := anyN_at hlt (by simp [h1, h2])
        simp [exact, this]
      · by_cases h3 : (m.ino n).links = refs m n
        · simp (config := { maxSteps := 1000000 }) (disch := omega) only [go_sem, h1, h3]
          refine ih _ hlt (step_all hp (by simp [h1, h2, h3])) ?_
          simp only [go_sem]
        · simp (config := { maxSteps := 1000000 }) (disch := omega) only [go_sem, h1, h3]
          have : anyN 8 (fun n => (m.ino n).live && (decide (refs m n = 0) || !decide ((m.ino n).links = refs m n))) = true := anyN_at hlt (by simp [h1, h3])
          simp [exact, this]
  · obtain rfl : n = 8 := by omega
    simp (config := { maxSteps := 1000000 }) (disch := omega) only [go_sem]
    refine W_callp rfl ⟨rfl, rfl⟩ (by simp only [go_sem]; exact Check_ok (m := m) hg hb.succ (by simp only [HP.push_rd_ext hb, hm])) ?_
    simp (config := { maxSteps := 1000000 }) (disch := omega) only [go_sem]
    have : anyN 8 (fun n => (m.ino n).live && (decide (refs m n = 0) || !decide ((m.ino n).links = refs m n))) = false := anyN_false.2 hp
    simp [exact, this]
end
end Go.Mini

namespace Go.Mini
set_option linter.unusedSimpArgs false
set_option linter.unusedVariables false
set_option maxHeartbeats 4000000
set_option maxRecDepth 100000
def partBad (m : Img) (n k p q : Nat) : Bool := (!decide (n = k) || !decide (p = q)) && decide (0 ≤ (m.ino n).prt p) && decide ((m.ino n).prt p = (m.ino k).prt q)
def pairBad (m : Img) (n k : Nat) : Bool :=
  (m.ino n).live && (m.ino k).live && ((!decide (n = k) && decide ((m.ino n).stamp = (m.ino k).stamp)) || anyN 2 fun p => anyN 2 fun q => partBad m n k p q)
def twiceR (m : Img) : Bool := anyN 8 fun n => anyN 8 fun k => pairBad m n k
theorem mem_stampsN {m : Img} {x : Int} : ∀ {n}, x ∈ stampsN m n ↔ ∃ k, k < n ∧ (m.ino k).live = true ∧ (m.ino k).stamp = x
  | 0 => by simp [stampsN]
  | n + 1 => by
    rw [stampsN]
    split
    · rename_i hl
      rw [List.mem_append, mem_stampsN, List.mem_singleton]
      constructor
      · rintro (⟨k, h1, h2⟩ | h)
        · exact ⟨k, by omega, h2⟩
        · exact ⟨n, by omega, hl, h.symm⟩
      · rintro ⟨k, h1, h2, h3⟩
        by_cases e : k = n
        · subst e; exact .inr h3.symm
        · exact .inl ⟨k, by omega, h2, h3⟩
    · rename_i hl
      rw [mem_stampsN]
      constructor
      · rintro ⟨k, h1, h2⟩; exact ⟨k, by omega, h2⟩
      · rintro ⟨k, h1, h2, h3⟩
        by_cases e : k = n
        · subst e; exact absurd h2 hl
        · exact ⟨k, by omega, h2, h3⟩
theorem mem_seenN {m : Img} {x : Int} : ∀ {n}, x ∈ seenN m n ↔ ∃ k, k < n ∧ (m.ino k).live = true ∧ ((m.ino k).prt 0 = x ∨ (m.ino k).prt 1 = x)
  | 0 => by simp [seenN]
  | n + 1 => by
    rw [seenN]
    split
    · rename_i hl
      rw [List.mem_append, List.mem_append, mem_seenN, List.mem_singleton, List.mem_singleton]
      constructor
      · rintro ((⟨k, h1, h2⟩ | h) | h)
        · exact ⟨k, by omega, h2⟩
        · exact ⟨n, by omega, hl, .inl h.symm⟩
        · exact ⟨n, by omega, hl, .inr h.symm⟩
      · rintro ⟨k, h1, h2, h3⟩
        by_cases e : k = n
        · subst e
          rcases h3 with h3 | h3
          · exact .inl (.inr h3.symm)
          · exact .inr h3.symm
        · exact .inl (.inl ⟨k, by omega, h2, h3⟩)
    · rename_i hl
      rw [mem_seenN]
      constructor
      · rintro ⟨k, h1, h2⟩; exact ⟨k, by omega, h2⟩
      · rintro ⟨k, h1, h2, h3⟩
        by_cases e : k = n
        · subst e; exact absurd h2 hl
        · exact ⟨k, by omega, h2, h3⟩
theorem badAt_iff {m : Img} {n : Nat} : badAt m n = true ↔ (m.ino n).live = true ∧ ((∃ k, k < n ∧ (m.ino k).live = true ∧ (m.ino k).stamp = (m.ino n).stamp) ∨
    (∃ p, p < 2 ∧ 0 ≤ (m.ino n).prt p ∧ ∃ k, k < n ∧ (m.ino k).live = true ∧ ((m.ino k).prt 0 = (m.ino n).prt p ∨ (m.ino k).prt 1 = (m.ino n).prt p)) ∨ (0 ≤ (m.ino n).prt 1 ∧ (m.ino n).prt 1 = (m.ino n).prt 0)) := by
  simp only [badAt, Bool.and_eq_true, Bool.or_eq_true, List.contains_iff_mem, decide_eq_true_eq, List.mem_append, List.mem_singleton, mem_stampsN, mem_seenN]
  constructor
  · rintro ⟨hl, ((h | ⟨h0, h⟩) | ⟨h1, h | h⟩)⟩
    · exact ⟨hl, .inl h⟩
    · exact ⟨hl, .inr (.inl ⟨0, by omega, h0, h⟩)⟩
    · exact ⟨hl, .inr (.inl ⟨1, by omega, h1, h⟩)⟩
    · exact ⟨hl, .inr (.inr ⟨h1, h⟩)⟩
  · rintro ⟨hl, (h | ⟨p, hp, h0, h⟩ | ⟨h1, h⟩)⟩
    · exact ⟨hl, .inl (.inl h)⟩
    · obtain rfl | rfl : p = 0 ∨ p = 1 := by omega
      · exact ⟨hl, .inl (.inr ⟨h0, h⟩)⟩
      · exact ⟨hl, .inr ⟨h0, .inl h⟩⟩
    · exact ⟨hl, .inr ⟨h1, .inr h⟩⟩
theorem pairBad_iff {m : Img} {n k : Nat} : pairBad m n k = true ↔ (m.ino n).live = true ∧ (m.ino k).live = true ∧ ((n ≠ k ∧ (m.ino n).stamp = (m.ino k).stamp) ∨ ∃ p q, p < 2 ∧ q < 2 ∧ (n ≠ k ∨ p ≠ q) ∧ 0 ≤ (m.ino n).prt p ∧ (m.ino n).prt p = (m.ino k).prt q) := by
  simp only [pairBad, partBad, Bool.and_eq_true, Bool.or_eq_true, anyN_iff, decide_eq_true_eq, Bool.not_eq_true', decide_eq_false_iff_not]
  constructor
  · rintro ⟨⟨h1, h2⟩, (h | ⟨p, hp, q, hq, ⟨h3, h4⟩, h5⟩)⟩
    · exact ⟨h1, h2, .inl h⟩
    · exact ⟨h1, h2, .inr ⟨p, q, hp, hq, h3, h4, h5⟩⟩
  · rintro ⟨h1, h2, (h | ⟨p, q, hp, hq, h3, h4, h5⟩)⟩
    · exact ⟨⟨h1, h2⟩, .inl h⟩
    · exact ⟨⟨h1, h2⟩, .inr ⟨p, hp, q, hq, ⟨h3, h4⟩, h5⟩⟩
theorem prt_or {i : Ino} {q : Nat} {x : Int} (hq : q < 2) (h : i.prt q = x) : i.prt 0 = x ∨ i.prt 1 = x := by
  obtain rfl | rfl : q = 0 ∨ q = 1 := by omega
  · exact .inl h
  · exact .inr h
theorem twiceR_eq (m : Img) : twiceR m = twice m := by
  rw [Bool.eq_iff_iff]
  simp only [twiceR, twice, anyN_iff, pairBad_iff, badAt_iff]
  constructor
  · rintro ⟨n, hn, k, hk, h1, h2, (⟨h3, h4⟩ | ⟨p, q, hp, hq, h3, h4, h5⟩)⟩
    · rcases Nat.lt_or_gt_of_ne h3 with h | h
      · exact ⟨k, hk, h2, .inl ⟨n, h, h1, h4⟩⟩
      · exact ⟨n, hn, h1, .inl ⟨k, h, h2, h4.symm⟩⟩
    · by_cases e : n = k
      · subst e
        refine ⟨n, hn, h1, .inr (.inr ?_)⟩
        have hpq : p ≠ q := h3.resolve_left (fun h => h rfl)
        obtain ⟨rfl, rfl⟩ | ⟨rfl, rfl⟩ : (p = 0 ∧ q = 1) ∨ (p = 1 ∧ q = 0) := by omega
        · exact ⟨by rw [← h5]; exact h4, h5.symm⟩
        · exact ⟨h4, h5⟩
      · rcases Nat.lt_or_gt_of_ne e with h | h
        · exact ⟨k, hk, h2, .inr (.inl ⟨q, hq, by rw [← h5]; exact h4, n, h, h1, prt_or hp h5⟩)⟩
        · exact ⟨n, hn, h1, .inr (.inl ⟨p, hp, h4, k, h, h2, prt_or hq h5.symm⟩)⟩
  · rintro ⟨n, hn, h1, (⟨k, hk, h2, h3⟩ | ⟨p, hp, h2, k, hk, h3, h4⟩ | ⟨h2, h3⟩)⟩
    · exact ⟨n, hn, k, by omega, h1, h2, .inl ⟨by omega, h3.symm⟩⟩
    · rcases h4 with h4 | h4
      · exact ⟨n, hn, k, by omega, h1, h3, .inr ⟨p, 0, hp, by omega, .inl (by omega), h2, h4.symm⟩⟩
      · exact ⟨n, hn, k, by omega, h1, h3, .inr ⟨p, 1, hp, by omega, .inl (by omega), h2, h4.symm⟩⟩
    · exact ⟨n, hn, n, hn, h1, h1, .inr ⟨1, 0, by omega, by omega, .inr (by omega), h2, h3⟩⟩
theorem twice_at {m : Img} {n k : Nat} (hn : n < 8) (hk : k < 8) (h : pairBad m n k = true) : twice m = true := by
  rw [← twiceR_eq]; exact anyN_at hn (anyN_at hk h)
theorem slot_lt {m : Img} {d s : Nat} (hd : d < 3) (hs : s < 4) (hn : ¬(m.ent d s).name = ⟨#[]⟩) : (slotOf m d (m.ent d s).name < s) ↔ anyN s (fun k => decide ((m.ent d k).name = (m.ent d s).name)) = true := by
  have e : slotOf m d (m.ent d s).name = findN 4 fun k => decide ((m.ent d k).name = (m.ent d s).name) := by
    simp only [slotOf, Int.toNat_natCast]
    rw [if_neg (by simp only [not_or]; exact ⟨by omega, by omega, hn⟩)]
  rw [e]
  constructor
  · intro h
    obtain e | ⟨j, hj, e, h1, h2⟩ := findN_lt (n := 4) (f := fun k => decide ((m.ent d k).name = (m.ent d s).name))
    · have := findN_neg e s hs; simp at this
    · rw [e] at h; exact anyN_at (j := j) (by omega) h1
  · intro h
    obtain ⟨j, hj, h1⟩ := anyN_iff.1 h
    obtain e | ⟨i, hi, e, h2, h3⟩ := findN_lt (n := 4) (f := fun k => decide ((m.ent d k).name = (m.ent d s).name))
    · have := findN_neg e j (by omega); rw [h1] at this; exact absurd this (by simp)
    · rw [e]
      rcases Nat.lt_or_ge j i with hji | hji
      · have := h3 j hji; rw [h1] at this; exact absurd this (by simp)
      · omega
theorem slot_ge {m : Img} {d s : Nat} (hd : d < 3) (hs : s < 4) (hn : ¬(m.ent d s).name = ⟨#[]⟩) (h : anyN s (fun k => decide ((m.ent d k).name = (m.ent d s).name)) = false) : ¬slotOf m d (m.ent d s).name < s := by
  rw [slot_lt hd hs hn, h]; simp
section
variable {cx : Cx} {h : HP} {p p' : Id} {q q' : List Nat} {m m' : Img}
theorem ImageFault_ok (hg : m.small) (hb : p.below cx.lvl) (hm : h.rd p q = some m.enc) :
    Ok tbl cx Fn.eiderdownref_ImageFault (St.enter [.ptr p q tImage] h) fun v h' => v = .int .i64 (check m) ∧ h' = h := by
  rw [Ok_eq]
  simp (config := { maxSteps := 1000000 }) (disch := omega) only [go_sem]
  refine W_forP 3 (fun d => ⟨[(0, .ptr p q tImage), (3, .int .i64 d)], [], h⟩) (fun d => ∀ i, i < d → dirFault m i = 0) (by simp only [go_sem] <;> rfl) (fun i hi => by omega) fun d hd hp ih => ?_
  by_cases hlt : d < 3
  · simp (config := { maxSteps := 1000000 }) (disch := omega) only [go_sem]
    refine W_forP 4 (fun s => ⟨[(0, .ptr p q tImage), (3, .int .i64 d), (4, .int .i64 s)], [], h⟩) (fun s => ∀ i, i < s → entryFault m d i = 0) (by simp only [go_sem] <;> rfl) (fun i hi => by omega) fun s hs hp' ih' => ?_
    by_cases hlt' : s < 4
    · have bad : ∀ {c : Int}, entryFault m d s = c → c ≠ 0 → check m = c := fun h1 h2 => by
        rw [check_1 hp hlt hp' hlt' (by rw [h1]; exact h2), h1]
      simp (config := { maxSteps := 1000000 }) (disch := omega) only [go_sem, hlt, hlt', rd_ext hb, HP.rd_app hm, fg_ptr hb, leads_ptr hb, apart_ptr hb]
      by_cases h1 : (m.ent d s).name = ⟨#[]⟩
      · by_cases h2 : (m.ent d s).ino = 0
        · by_cases h3 : (m.ent d s).stamp = 0
          · simp (config := { maxSteps := 1000000 }) (disch := omega) only [go_sem, h1, h2, h3]
            refine ih' _ hlt' (step_all hp' ?_) ?_
            · have : m.ent d s = Ent.zero := by
                cases e : m.ent d s with | mk a b c =>
                rw [e] at h1 h2 h3
                simp only at h1 h2 h3
                subst h1; subst h2; subst h3; rfl
              simp [entryFault, this, show Ent.zero.name = ⟨#[]⟩ from rfl]
            · simp only [go_sem]
          · simp (config := { maxSteps := 1000000 }) (disch := omega) only [go_sem, h1, h2, h3]
            rw [bad (c := 12) (by
              have : ¬m.ent d s = Ent.zero := fun e => h3 (by rw [e]; rfl)
              simp [entryFault, h1, this]) (by decide)]
        · simp (config := { maxSteps := 1000000 }) (disch := omega) only [go_sem, h1, h2]
          rw [bad (c := 12) (by
            have : ¬m.ent d s = Ent.zero := fun e => h2 (by rw [e]; rfl)
            simp [entryFault, h1, this]) (by decide)]
      simp (config := { maxSteps := 1000000 }) (disch := omega) only [go_sem, h1]
      refine W_callp rfl ⟨rfl, rfl⟩ (by simp only [go_sem]; exact IsName_ok (hg d s)) ?_
      simp (config := { maxSteps := 1000000 }) (disch := omega) only [go_sem, rd_ext hb, HP.rd_app hm, fg_ptr hb, leads_ptr hb, apart_ptr hb]
      cases h2 : isName (m.ent d s).name with
      | false => simp (config := { maxSteps := 1000000 }) (disch := omega) only [go_sem, h2]; rw [bad (c := 2) (by simp [entryFault, h1, h2]) (by decide)]
      | true =>
        simp (config := { maxSteps := 1000000 }) (disch := omega) only [go_sem, h2]
        refine W_callp rfl ⟨rfl, rfl⟩ (by simp only [go_sem]; exact SlotOf_ok (m := m) hb.succ (by simp only [HP.push_rd_ext hb, hm])) ?_
        simp (config := { maxSteps := 1000000 }) (disch := omega) only [go_sem]
        cases h3 : anyN s (fun k => decide ((m.ent d k).name = (m.ent d s).name)) with
        | true =>
          have := (slot_lt hlt hlt' h1).2 h3
          simp (config := { maxSteps := 1000000 }) (disch := omega) only [go_sem, this]; rw [bad (c := 4) (by simp [entryFault, h1, h2, h3]) (by decide)]
        | false =>
          have := slot_ge hlt hlt' h1 h3
          simp (config := { maxSteps := 1000000 }) (disch := omega) only [go_sem, this]
          by_cases h4 : (m.ent d s).ino < 0
          · simp (config := { maxSteps := 1000000 }) (disch := omega) only [go_sem, h4]; rw [bad (c := 1) (by simp [entryFault, h1, h2, h3, h4]) (by decide)]
          by_cases h5 : 8 ≤ (m.ent d s).ino
          · simp (config := { maxSteps := 1000000 }) (disch := omega) only [go_sem, h4, h5]; rw [bad (c := 1) (by simp [entryFault, h1, h2, h3, h5]) (by decide)]
          simp (config := { maxSteps := 1000000 }) (disch := omega) only [go_sem, h4, h5, rd_ext hb, HP.rd_app hm, fg_ptr hb, leads_ptr hb, apart_ptr hb]
          have h45 : ¬((m.ent d s).ino < 0 ∨ 8 ≤ (m.ent d s).ino) := by omega
          cases h6 : (m.ino (m.ent d s).ino.toNat).live with
          | false => simp (config := { maxSteps := 1000000 }) (disch := omega) only [go_sem, h6]; rw [bad (c := 8) (by simp [entryFault, h1, h2, h3, h45, h6]) (by decide)]
          | true =>
            by_cases h7 : (m.ino (m.ent d s).ino.toNat).stamp = (m.ent d s).stamp
            · simp (config := { maxSteps := 1000000 }) (disch := omega) only [go_sem, h6, h7, rd_ext hb, HP.rd_app hm, fg_ptr hb, leads_ptr hb, apart_ptr hb]
              refine ih' _ hlt' (step_all hp' (by simp [entryFault, h1, h2, h3, h45, h6, h7])) ?_
              simp only [go_sem]
            · simp (config := { maxSteps := 1000000 }) (disch := omega) only [go_sem, h6, h7, rd_ext hb, HP.rd_app hm, fg_ptr hb, leads_ptr hb, apart_ptr hb]; rw [bad (c := 8) (by simp [entryFault, h1, h2, h3, h45, h6, h7]) (by decide)]
    · obtain rfl : s = 4 := by omega
      simp (config := { maxSteps := 1000000 }) (disch := omega) only [go_sem]
      refine ih _ hlt (step_all hp (firstI_zero.2 hp')) ?_
      simp only [go_sem]
  · obtain rfl : d = 3 := by omega
    simp (config := { maxSteps := 1000000 }) (disch := omega) only [go_sem]
    refine W_forP 8 (fun n => ⟨[(0, .ptr p q tImage), (6, .int .i64 n)], [], h⟩) (fun n => ∀ i, i < n → inoFault m i = 0) (by simp only [go_sem] <;> rfl) (fun i hi => by omega) fun n hn hp' ih' => ?_
    by_cases hlt' : n < 8
    · have bad : ∀ {c : Int}, inoFault m n = c → c ≠ 0 → check m = c := fun h1 h2 => by
        rw [check_2 hp hp' hlt' (by rw [h1]; exact h2), h1]
      simp (config := { maxSteps := 1000000 }) (disch := omega) only [go_sem, hlt', rd_ext hb, HP.rd_app hm, fg_ptr hb, leads_ptr hb, apart_ptr hb]
      cases h1 : (m.ino n).live with
      | false =>
        simp (config := { maxSteps := 1000000 }) (disch := omega) only [go_sem, h1, rd_ext hb, HP.rd_app hm, fg_ptr hb, leads_ptr hb, apart_ptr hb]
        refine W_callp rfl ⟨rfl, rfl⟩ (by simp only [go_sem]; exact None_ok) ?_
        by_cases h2 : m.ino n = Ino.none
        · simp (config := { maxSteps := 1000000 }) (disch := omega) only [go_sem, h2]
          refine ih' _ hlt' (step_all hp' (by simp [inoFault, h2, show Ino.none.live = false from rfl])) ?_
          simp only [go_sem]
        · simp (config := { maxSteps := 1000000 }) (disch := omega) only [go_sem, h2]; rw [bad (c := 12) (by simp [inoFault, h1, h2]) (by decide)]
      | true =>
        simp (config := { maxSteps := 1000000 }) (disch := omega) only [go_sem, h1, rd_ext hb, HP.rd_app hm, fg_ptr hb, leads_ptr hb, apart_ptr hb]
        by_cases h2 : (m.ino n).stamp < 1
        · simp (config := { maxSteps := 1000000 }) (disch := omega) only [go_sem, h2]; rw [bad (c := 9) (by simp [inoFault, h1, h2]) (by decide)]
        simp (config := { maxSteps := 1000000 }) (disch := omega) only [go_sem, h2]
        refine W_callp rfl ⟨rfl, rfl⟩ (by simp only [go_sem]; exact Leads_ok (m := m) hb.succ (by simp only [HP.push_rd_ext hb, hm])) ?_
        simp (config := { maxSteps := 1000000 }) (disch := omega) only [go_sem, h2]
        by_cases h3 : (m.ino n).links < refs m n
        · simp (config := { maxSteps := 1000000 }) (disch := omega) only [go_sem, h2, h3]; rw [bad (c := 9) (by simp [inoFault, h1, h3]) (by decide)]
        have h23 : ¬((m.ino n).stamp < 1 ∨ (m.ino n).links < refs m n) := by simp only [not_or]; exact ⟨h2, h3⟩
        have e : inoFault m n = firstI 2 (partFault m (m.ino n)) := by simp only [inoFault, h1, Bool.true_eq_false, if_false, h23]
        simp (config := { maxSteps := 1000000 }) (disch := omega) only [go_sem, h3]
        refine W_forP 2 (fun j => ⟨[(0, .ptr p q tImage), (6, .int .i64 n), (7, .ptr (.stk cx.lvl 7) [] tInode), (8, .int .i64 j)], [(7, ⟨tInode, (m.ino n).enc⟩)], h⟩) (fun j => ∀ i, i < j → partFault m (m.ino n) i = 0) (by simp only [go_sem] <;> rfl) (fun i hi => by omega) fun j hj hp2 ih2 => ?_
        by_cases hlt2 : j < 2
        · simp (config := { maxSteps := 1000000 }) (disch := omega) only [go_sem, hlt2, rd_ext hb, HP.rd_app hm, fg_ptr hb, leads_ptr hb, apart_ptr hb]
          by_cases h0 : (m.ino n).prt j = -1
          · simp (config := { maxSteps := 1000000 }) (disch := omega) only [go_sem, h0]
            refine ih2 _ hlt2 (step_all hp2 (by simp [partFault, h0])) ?_
            simp only [go_sem]
          by_cases h4 : (m.ino n).prt j < 0
          · simp (config := { maxSteps := 1000000 }) (disch := omega) only [go_sem, h0, h4]
            have : partFault m (m.ino n) j = 1 := by simp only [partFault]; rw [if_pos (by omega)]
            rw [bad (by rw [e, firstI_at hp2 (by rw [this]; decide) hlt2, this]) (by decide)]
          by_cases h5 : 9 ≤ (m.ino n).prt j
          · simp (config := { maxSteps := 1000000 }) (disch := omega) only [go_sem, h0, h4, h5]
            have : partFault m (m.ino n) j = 1 := by simp [partFault, h5]
            rw [bad (by rw [e, firstI_at hp2 (by rw [this]; decide) hlt2, this]) (by decide)]
          have h45 : ¬((m.ino n).prt j < -1 ∨ 9 ≤ (m.ino n).prt j) := by omega
          have h6 : 0 ≤ (m.ino n).prt j := by omega
          by_cases h7 : (m.dat ((m.ino n).prt j).toNat).of = (m.ino n).stamp
          · simp (config := { maxSteps := 1000000 }) (disch := omega) only [go_sem, h0, h4, h5, h6, rd_ext hb, HP.rd_app hm, fg_ptr hb, leads_ptr hb, apart_ptr hb, h7]
            refine ih2 _ hlt2 (step_all hp2 (by simp [partFault, h45, h7])) ?_
            simp only [go_sem]
          · simp (config := { maxSteps := 1000000 }) (disch := omega) only [go_sem, h0, h4, h5, h6, rd_ext hb, HP.rd_app hm, fg_ptr hb, leads_ptr hb, apart_ptr hb, h7]
            have : partFault m (m.ino n) j = 10 := by simp only [partFault, h45, h6, h7, if_false, not_false_eq_true, and_self, if_true]
            rw [bad (by rw [e, firstI_at hp2 (by rw [this]; decide) hlt2, this]) (by decide)]
        · obtain rfl : j = 2 := by omega
          simp (config := { maxSteps := 1000000 }) (disch := omega) only [go_sem]
          refine ih' _ hlt' (step_all hp' (by rw [e]; exact firstI_zero.2 hp2)) ?_
          simp only [go_sem]
    · obtain rfl : n = 8 := by omega
      have ec := check_3 hp hp'
      have bad : ∀ {n k}, n < 8 → k < 8 → pairBad m n k = true → check m = 11 := fun h1 h2 h3 => by
        rw [ec, twice_at h1 h2 h3, if_pos rfl]
      simp (config := { maxSteps := 1000000 }) (disch := omega) only [go_sem]
      refine W_forP 8 (fun n => ⟨[(0, .ptr p q tImage), (10, .int .i64 n)], [], h⟩) (fun n => ∀ i, i < n → anyN 8 (pairBad m i) = false) (by simp only [go_sem] <;> rfl) (fun i hi => by omega) fun n hn hp3 ih3 => ?_
      by_cases hlt3 : n < 8
      · simp (config := { maxSteps := 1000000 }) (disch := omega) only [go_sem]
        refine W_forP 8 (fun k => ⟨[(0, .ptr p q tImage), (10, .int .i64 n), (11, .int .i64 k)], [], h⟩) (fun k => ∀ i, i < k → pairBad m n i = false) (by simp only [go_sem] <;> rfl) (fun i hi => by omega) fun k hk hp4 ih4 => ?_
        by_cases hlt4 : k < 8
        · simp (config := { maxSteps := 1000000 }) (disch := omega) only [go_sem, hlt3, hlt4, rd_ext hb, HP.rd_app hm, fg_ptr hb, leads_ptr hb, apart_ptr hb]
          cases h1 : (m.ino n).live with
          | false =>
            simp (config := { maxSteps := 1000000 }) (disch := omega) only [go_sem, h1]
            refine ih4 _ hlt4 (step_all hp4 (by simp [pairBad, h1])) ?_
            simp only [go_sem]
          | true =>
            simp (config := { maxSteps := 1000000 }) (disch := omega) only [go_sem, h1, hlt3, hlt4, rd_ext hb, HP.rd_app hm, fg_ptr hb, leads_ptr hb, apart_ptr hb]
            cases h2 : (m.ino k).live with
            | false =>
              simp (config := { maxSteps := 1000000 }) (disch := omega) only [go_sem, h2]
              refine ih4 _ hlt4 (step_all hp4 (by simp [pairBad, h2])) ?_
              simp only [go_sem]
            | true =>
              simp (config := { maxSteps := 1000000 }) (disch := omega) only [go_sem, h2]
              by_cases ek : n = k
              · subst ek
                simp (config := { maxSteps := 1000000 }) (disch := omega) only [go_sem, hlt3, hlt4, rd_ext hb, HP.rd_app hm, fg_ptr hb, leads_ptr hb, apart_ptr hb]
                refine W_forP 2 (fun a => ⟨[(0, .ptr p q tImage), (10, .int .i64 n), (11, .int .i64 n), (12, .int .i64 a)], [], h⟩) (fun a => ∀ i, i < a → anyN 2 (partBad m n n i) = false) (by simp only [go_sem] <;> rfl) (fun i hi => by omega) fun a ha hp5 ih5 => ?_
                by_cases hlt5 : a < 2
                · simp (config := { maxSteps := 1000000 }) (disch := omega) only [go_sem]
                  refine W_forP 2 (fun b => ⟨[(0, .ptr p q tImage), (10, .int .i64 n), (11, .int .i64 n), (12, .int .i64 a), (13, .int .i64 b)], [], h⟩) (fun b => ∀ i, i < b → partBad m n n a i = false) (by simp only [go_sem] <;> rfl) (fun i hi => by omega) fun b hb' hp6 ih6 => ?_
                  by_cases hlt6 : b < 2
                  · have pb : partBad m n n a b = true → pairBad m n n = true := fun hx => by
                      have : anyN 2 (fun p => anyN 2 fun q => partBad m n n p q) = true := anyN_at hlt5 (anyN_at hlt6 hx)
                      simp only [pairBad, h1, this, Bool.and_self, Bool.or_true]
                    by_cases ab : a = b
                    · subst ab
                      simp (config := { maxSteps := 1000000 }) (disch := omega) only [go_sem, hlt3, hlt4, hlt5, hlt6, rd_ext hb, HP.rd_app hm, fg_ptr hb, leads_ptr hb, apart_ptr hb]
                      refine ih6 _ hlt6 (step_all hp6 (by simp [partBad])) ?_
                      simp only [go_sem]
                    · simp (config := { maxSteps := 1000000 }) (disch := omega) only [go_sem, hlt3, hlt4, hlt5, hlt6, rd_ext hb, HP.rd_app hm, fg_ptr hb, leads_ptr hb, apart_ptr hb]
                      by_cases c1 : 0 ≤ (m.ino n).prt a
                      · by_cases c2 : (m.ino n).prt a = (m.ino n).prt b
                        · simp (config := { maxSteps := 1000000 }) (disch := omega) only [go_sem, c1, c2, hlt3, hlt4, hlt5, hlt6, rd_ext hb, HP.rd_app hm, fg_ptr hb, leads_ptr hb, apart_ptr hb]
                          rw [bad hlt3 hlt3 (pb (by have c3 := c1; rw [c2] at c3; simp [partBad, ab, c2, c3]))]
                        · simp (config := { maxSteps := 1000000 }) (disch := omega) only [go_sem, c1, c2, hlt3, hlt4, hlt5, hlt6, rd_ext hb, HP.rd_app hm, fg_ptr hb, leads_ptr hb, apart_ptr hb]
                          refine ih6 _ hlt6 (step_all hp6 (by simp [partBad, c2])) ?_
                          simp only [go_sem]
                      · simp (config := { maxSteps := 1000000 }) (disch := omega) only [go_sem, c1]
                        refine ih6 _ hlt6 (step_all hp6 (by simp [partBad, c1])) ?_
                        simp only [go_sem]
                  · obtain rfl : b = 2 := by omega
                    simp (config := { maxSteps := 1000000 }) (disch := omega) only [go_sem]
                    refine ih5 _ hlt5 (step_all hp5 (anyN_false.2 hp6)) ?_
                    simp only [go_sem]
                · obtain rfl : a = 2 := by omega
                  simp (config := { maxSteps := 1000000 }) (disch := omega) only [go_sem]
                  refine ih4 _ hlt4 (step_all hp4 ?_) ?_
                  · have : anyN 2 (fun p => anyN 2 fun q => partBad m n n p q) = false := anyN_false.2 hp5
                    rw [pairBad, this]; simp
                  · simp only [go_sem]
              · by_cases ck : (m.ino n).stamp = (m.ino k).stamp
                · simp (config := { maxSteps := 1000000 }) (disch := omega) only [go_sem, ck, hlt3, hlt4, rd_ext hb, HP.rd_app hm, fg_ptr hb, leads_ptr hb, apart_ptr hb]
                  rw [bad hlt3 hlt4 (by simp [pairBad, h1, h2, ek, ck])]
                · simp (config := { maxSteps := 1000000 }) (disch := omega) only [go_sem, ck, hlt3, hlt4, rd_ext hb, HP.rd_app hm, fg_ptr hb, leads_ptr hb, apart_ptr hb]
                  refine W_forP 2 (fun a => ⟨[(0, .ptr p q tImage), (10, .int .i64 n), (11, .int .i64 k), (12, .int .i64 a)], [], h⟩) (fun a => ∀ i, i < a → anyN 2 (partBad m n k i) = false) (by simp only [go_sem] <;> rfl) (fun i hi => by omega) fun a ha hp5 ih5 => ?_
                  by_cases hlt5 : a < 2
                  · simp (config := { maxSteps := 1000000 }) (disch := omega) only [go_sem]
                    refine W_forP 2 (fun b => ⟨[(0, .ptr p q tImage), (10, .int .i64 n), (11, .int .i64 k), (12, .int .i64 a), (13, .int .i64 b)], [], h⟩) (fun b => ∀ i, i < b → partBad m n k a i = false) (by simp only [go_sem] <;> rfl) (fun i hi => by omega) fun b hb' hp6 ih6 => ?_
                    by_cases hlt6 : b < 2
                    · have pb : partBad m n k a b = true → pairBad m n k = true := fun hx => by
                        have : anyN 2 (fun p => anyN 2 fun q => partBad m n k p q) = true := anyN_at hlt5 (anyN_at hlt6 hx)
                        simp only [pairBad, h1, h2, this, Bool.and_self, Bool.or_true]
                      simp (config := { maxSteps := 1000000 }) (disch := omega) only [go_sem, hlt3, hlt4, hlt5, hlt6, rd_ext hb, HP.rd_app hm, fg_ptr hb, leads_ptr hb, apart_ptr hb]
                      by_cases c1 : 0 ≤ (m.ino n).prt a
                      · by_cases c2 : (m.ino n).prt a = (m.ino k).prt b
                        · simp (config := { maxSteps := 1000000 }) (disch := omega) only [go_sem, c1, c2, hlt3, hlt4, hlt5, hlt6, rd_ext hb, HP.rd_app hm, fg_ptr hb, leads_ptr hb, apart_ptr hb]
                          rw [bad hlt3 hlt4 (pb (by have c3 := c1; rw [c2] at c3; simp [partBad, ek, c2, c3]))]
                        · simp (config := { maxSteps := 1000000 }) (disch := omega) only [go_sem, c1, c2, hlt3, hlt4, hlt5, hlt6, rd_ext hb, HP.rd_app hm, fg_ptr hb, leads_ptr hb, apart_ptr hb]
                          refine ih6 _ hlt6 (step_all hp6 (by simp [partBad, c2])) ?_
                          simp only [go_sem]
                      · simp (config := { maxSteps := 1000000 }) (disch := omega) only [go_sem, c1]
                        refine ih6 _ hlt6 (step_all hp6 (by simp [partBad, c1])) ?_
                        simp only [go_sem]
                    · obtain rfl : b = 2 := by omega
                      simp (config := { maxSteps := 1000000 }) (disch := omega) only [go_sem]
                      refine ih5 _ hlt5 (step_all hp5 (anyN_false.2 hp6)) ?_
                      simp only [go_sem]
                  · obtain rfl : a = 2 := by omega
                    simp (config := { maxSteps := 1000000 }) (disch := omega) only [go_sem]
                    refine ih4 _ hlt4 (step_all hp4 ?_) ?_
                    · have : anyN 2 (fun p => anyN 2 fun q => partBad m n k p q) = false := anyN_false.2 hp5
                      rw [pairBad, this]; simp [ck]
                    · simp only [go_sem]
        · obtain rfl : k = 8 := by omega
          simp (config := { maxSteps := 1000000 }) (disch := omega) only [go_sem]
          refine ih3 _ hlt3 (step_all hp3 (anyN_false.2 hp4)) ?_
          simp only [go_sem]
      · obtain rfl : n = 8 := by omega
        simp (config := { maxSteps := 1000000 }) (disch := omega) only [go_sem]
        have : twice m = false := by rw [← twiceR_eq]; exact anyN_false.2 hp3
        rw [ec, this]; rfl
end
end Go.Mini

namespace Go.Mini
set_option linter.unusedSimpArgs false
set_option linter.unusedVariables false
set_option maxHeartbeats 4000000
set_option maxRecDepth 100000
theorem sumN_ge {f : Nat → Nat} {j : Nat} : ∀ {n}, j < n → f j ≤ sumN n f
  | 0, h => by omega
  | n + 1, h => by
    rw [sumN]
    by_cases e : j = n
    · subst e; omega
    · have := sumN_ge (f := f) (j := j) (n := n) (by omega); omega
theorem sumN_upd {f g : Nat → Nat} {j : Nat} (h : ∀ i, i ≠ j → f i = g i) : ∀ {n}, j < n → sumN n f + g j = sumN n g + f j
  | 0, hj => by omega
  | n + 1, hj => by
    rw [sumN, sumN]
    by_cases e : j = n
    · subst e
      have := sumN_congr (n := j) (f := f) (g := g) fun i hi => h i (by omega)
      omega
    · have := sumN_upd h (n := n) (by omega)
      have := h n (fun e' => e e'.symm)
      omega
theorem ent_out {m : Img} {d s : Nat} (h : ¬(d < 3 ∧ s < 4)) : m.ent d s = Ent.zero := by simp only [Img.ent]; rw [dif_neg h]
theorem small_of {m : Img} (h : ∀ d, d < 3 → ∀ s, s < 4 → (m.ent d s).name.size ≤ 100000) : m.small := by
  intro d s
  by_cases hc : d < 3 ∧ s < 4
  · exact h d hc.1 s hc.2
  · rw [ent_out hc]; decide
theorem check_parts {m : Img} (h : check m = 0) : (∀ d, d < 3 → ∀ s, s < 4 → entryFault m d s = 0) ∧ (∀ n, n < 8 → inoFault m n = 0) ∧ twice m = false := by
  unfold check at h
  split at h
  · rename_i h1; exact absurd h h1
  · rename_i h1
    split at h
    · rename_i h2; exact absurd h h2
    · rename_i h2
      split at h
      · exact absurd h (by decide)
      · rename_i h3
        refine ⟨fun d hd => firstI_zero.1 (firstI_zero.1 (by simpa using h1) d hd), firstI_zero.1 (by simpa using h2), by simpa using h3⟩
theorem check_of {m : Img} (h1 : ∀ d, d < 3 → ∀ s, s < 4 → entryFault m d s = 0) (h2 : ∀ n, n < 8 → inoFault m n = 0) (h3 : twice m = false) : check m = 0 := by
  rw [check_3 (fun d hd => firstI_zero.2 (h1 d hd)) h2, h3]; rfl
theorem entry_parts {m : Img} {d s : Nat} (h : entryFault m d s = 0) : m.ent d s = Ent.zero ∨ (¬(m.ent d s).name = ⟨#[]⟩ ∧ isName (m.ent d s).name = true ∧ anyN s (fun k => decide ((m.ent d k).name = (m.ent d s).name)) = false ∧
    0 ≤ (m.ent d s).ino ∧ (m.ent d s).ino < 8 ∧ (m.ino (m.ent d s).ino.toNat).live = true ∧ (m.ino (m.ent d s).ino.toNat).stamp = (m.ent d s).stamp) := by
  simp only [entryFault] at h
  split at h
  · split at h
    · rename_i h1; exact .inl h1
    · exact absurd h (by decide)
  · rename_i h1
    right
    split at h
    · exact absurd h (by decide)
    · rename_i h2
      split at h
      · exact absurd h (by decide)
      · rename_i h3
        split at h
        · exact absurd h (by decide)
        · rename_i h4
          split at h
          · rename_i h5
            exact ⟨h1, by simpa using h2, by simpa using h3, by omega, by omega, h5.1, h5.2⟩
          · exact absurd h (by decide)
theorem entry_of {m : Img} {d s : Nat} (h1 : ¬(m.ent d s).name = ⟨#[]⟩) (h2 : isName (m.ent d s).name = true) (h3 : anyN s (fun k => decide ((m.ent d k).name = (m.ent d s).name)) = false)
    (h4 : 0 ≤ (m.ent d s).ino) (h5 : (m.ent d s).ino < 8) (h6 : (m.ino (m.ent d s).ino.toNat).live = true) (h7 : (m.ino (m.ent d s).ino.toNat).stamp = (m.ent d s).stamp) : entryFault m d s = 0 := by
  have h45 : ¬((m.ent d s).ino < 0 ∨ 8 ≤ (m.ent d s).ino) := by omega
  simp [entryFault, h1, h2, h3, h45, h6, h7]
end Go.Mini

namespace Go.Mini
set_option linter.unusedSimpArgs false
set_option linter.unusedVariables false
set_option maxHeartbeats 4000000
set_option maxRecDepth 100000
theorem ent_drop {m : Img} {d s d' s' : Nat} (hd : d < 3) (hs : s < 4) : (m.setEnt d s Ent.zero).ent d' s' = if d = d' ∧ s = s' then Ent.zero else m.ent d' s' := by
  rw [ent_setEnt]
  by_cases h : d = d' ∧ s = s'
  · rw [if_pos ⟨h, by omega⟩, if_pos h]
  · rw [if_neg (fun h' => h h'.1), if_neg h]
theorem leads_zero {m : Img} {d s : Nat} {i : Int} (h : m.ent d s = Ent.zero) : leads m d s i = false := by
  simp [leads, h, show Ent.zero.name = ⟨#[]⟩ from rfl]
theorem leads_congr {m m' : Img} {d s : Nat} {i : Int} (h : m.ent d s = m'.ent d s) : leads m d s i = leads m' d s i := by
  simp only [leads, h]
theorem refs_drop {m : Img} {d s : Nat} (hd : d < 3) (hs : s < 4) (i : Int) : refs m i = refs (m.setEnt d s Ent.zero) i + b2n (leads m d s i) := by
  have e0 : leads (m.setEnt d s Ent.zero) d s i = false := leads_zero (by rw [ent_drop hd hs, if_pos ⟨rfl, rfl⟩])
  have h2 := sumN_upd (f := fun t => b2n (leads m d t i)) (g := fun t => b2n (leads (m.setEnt d s Ent.zero) d t i)) (j := s) (n := 4) (fun t ht => by
    show b2n (leads m d t i) = b2n (leads (m.setEnt d s Ent.zero) d t i)
    rw [leads_congr (m := m) (m' := m.setEnt d s Ent.zero) (by rw [ent_drop hd hs, if_neg (fun h => ht h.2.symm)])]) hs
  have h3 := sumN_upd (f := fun e => refsRow m i e 4) (g := fun e => refsRow (m.setEnt d s Ent.zero) i e 4) (j := d) (n := 3) (fun t ht => by
    show sumN 4 _ = sumN 4 _
    refine sumN_congr fun u hu => ?_
    rw [leads_congr (m := m) (m' := m.setEnt d s Ent.zero) (by rw [ent_drop hd hs, if_neg (fun h => ht h.1.symm)])]) hd
  have e1 : b2n (leads (m.setEnt d s Ent.zero) d s i) = 0 := by rw [e0]; rfl
  simp only [refs, refsRow] at *
  omega
theorem twice_ino {m m' : Img} (h : ∀ n, m.ino n = m'.ino n) : twice m = twice m' := by
  rw [← twiceR_eq, ← twiceR_eq]
  simp only [twiceR, pairBad, partBad, h]
theorem exact_parts {m : Img} (h : exact m = true) : check m = 0 ∧ ∀ n, n < 8 → (m.ino n).live = true → ¬refs m n = 0 ∧ (m.ino n).links = refs m n := by
  simp only [exact, Bool.and_eq_true, Bool.not_eq_true', decide_eq_true_eq] at h
  refine ⟨h.2, fun n hn hl => ?_⟩
  have := anyN_false.1 h.1 n hn
  simpa [hl] using this
end Go.Mini

namespace Go.Mini
set_option linter.unusedSimpArgs false
set_option linter.unusedVariables false
set_option maxHeartbeats 4000000
set_option maxRecDepth 100000
theorem sumN_zeros {f : Nat → Nat} {n : Nat} (h : ∀ i, i < n → f i = 0) : sumN n f = 0 := by
  induction n with
  | zero => rfl
  | succ n ih => rw [sumN, ih fun i hi => h i (by omega), h n (by omega)]
def named (m : Img) (d s : Nat) : Bool := !decide ((m.ent d s).name = ⟨#[]⟩)
def namesRow (m : Img) (d k : Nat) : Nat := sumN k fun s => b2n (named m d s)
def names (m : Img) (k : Nat) : Nat := sumN k fun d => namesRow m d 4
theorem dead_refs {m : Img} (hc : check m = 0) {n : Nat} (hn : n < 8) (hl : (m.ino n).live = false) : refs m n = 0 := by
  refine sumN_zeros fun d hd => sumN_zeros fun s hs => ?_
  rcases entry_parts ((check_parts hc).1 d hd s hs) with e | ⟨a1, a2, a3, a4, a5, a6, a7⟩
  · rw [leads_zero e]; rfl
  · have : ¬(m.ent d s).ino = (n : Int) := fun e => by
      have : (m.ent d s).ino.toNat = n := by omega
      rw [this, hl] at a6; exact absurd a6 (by simp)
    simp [leads, this, b2n]
def hits (m : Img) (n p x : Nat) : Nat := b2n ((m.ino n).live && decide ((m.ino n).prt p = x))
def cnt (m : Img) (n r x : Nat) : Nat := (sumN n fun k => sumN 2 fun p => hits m k p x) + sumN r fun p => hits m n p x
def cntV (m : Img) (n r : Nat) : Vector Int 9 := Vector.ofFn fun x : Fin 9 => (cnt m n r x : Int)
@[go_sem] theorem cntV_at (m : Img) (n r : Nat) {x : Nat} (hx : x < 9) : (cntV m n r)[x]'hx = (cnt m n r x : Int) := by simp [cntV]
@[go_sem] theorem idxV_held (j : Id) (p : List Nat) (i : AV) : idxV 9 tI (.ptr j p tHeld) i = idxV 9 tI (.ptr j p (.arr 9 tI)) i := rfl
@[go_sem] theorem zero_held : tHeld.zero = encV (AV.int .i64) (Vector.replicate 9 0) := zero_encV (t := tI) rfl
end Go.Mini

namespace Go.Mini
set_option linter.unusedSimpArgs false
set_option linter.unusedVariables false
set_option maxHeartbeats 4000000
set_option maxRecDepth 100000
def encLost (a b c : Int) : AV := .cons (.int .i64 a) (.cons (.int .i64 b) (.cons (.int .i64 c) .unit))
@[go_sem] theorem at_lost0 (a b c : Int) : (encLost a b c).at [0] = some (.int .i64 a) := rfl
@[go_sem] theorem at_lost1 (a b c : Int) : (encLost a b c).at [1] = some (.int .i64 b) := rfl
@[go_sem] theorem at_lost2 (a b c : Int) : (encLost a b c).at [2] = some (.int .i64 c) := rfl
@[go_sem] theorem put_lost0 (a b c x : Int) : (encLost a b c).put [0] (.int .i64 x) = some (encLost x b c) := rfl
@[go_sem] theorem put_lost1 (a b c x : Int) : (encLost a b c).put [1] (.int .i64 x) = some (encLost a x c) := rfl
@[go_sem] theorem put_lost2 (a b c x : Int) : (encLost a b c).put [2] (.int .i64 x) = some (encLost a b x) := rfl
@[go_sem] theorem fits_lost (a b c : Int) : (tLost.fits (encLost a b c) = true) = True := eq_true rfl
@[go_sem] theorem zero_lost : tLost.zero = encLost 0 0 0 := rfl
@[go_sem] theorem fill_lost3 (a b c : Int) : fill tLost (encLost 0 0 0) [(0, .int .i64 a), (1, .int .i64 b), (2, .int .i64 c)] = some (encLost a b c) := rfl
@[go_sem] theorem fill_lost2 (b c : Int) : fill tLost (encLost 0 0 0) [(1, .int .i64 b), (2, .int .i64 c)] = some (encLost 0 b c) := rfl
@[go_sem] theorem field_lost0 : tLost.field 0 = some tI := rfl
@[go_sem] theorem field_lost1 : tLost.field 1 = some tI := rfl
@[go_sem] theorem field_lost2 : tLost.field 2 = some tI := rfl
@[go_sem] theorem fg_lost (a b c : Int) (i : Id) : fg (encLost a b c) i = encLost a b c := rfl
@[go_sem] theorem leads_lost (a b c : Int) (i : Id) : (encLost a b c).leads i = false := rfl
@[go_sem] theorem isAgg_lost (a b c : Int) : (encLost a b c).isAgg = true := rfl
@[go_sem] theorem safe_lost (a b c : Int) : (encLost a b c).safe = true := rfl
theorem eq_lost (a b c a' b' c' : Int) : (encLost a b c).eq (encLost a' b' c') = some (decide (a = a' ∧ b = b' ∧ c = c')) := by
  simp only [encLost, eq_cons, eq_unit, eq_int, andEq_dec, andEq_tt]
@[go_sem] theorem eqV_lost (neg : Bool) (a b c a' b' c' : Int) : eqV tLost neg (encLost a b c) (encLost a' b' c') = some (.bool (if neg = true then !decide (a = a' ∧ b = b' ∧ c = c') else decide (a = a' ∧ b = b' ∧ c = c'))) := eqV_of rfl rfl (eq_lost ..)
@[go_sem] theorem zero_K3 : tK3.zero = encV (AV.int .i64) (Vector.replicate 3 0) := zero_encV (t := tI) rfl
@[go_sem] theorem fits_K3 (v : Vector Int 3) : (tK3.fits (encV (AV.int .i64) v) = true) = True := eq_true (fits_encV (t := tI) fun _ => rfl)
@[go_sem] theorem idxV_K3 (j : Id) (p : List Nat) (i : AV) : idxV 3 tI (.ptr j p tK3) i = idxV 3 tI (.ptr j p (.arr 3 tI)) i := rfl
def k3 (a b c : Int) : Vector Int 3 := #v[a, b, c]
@[go_sem] theorem k3_0 (a b c : Int) (h : 0 < 3) : (k3 a b c)[0]'h = a := rfl
@[go_sem] theorem k3_1 (a b c : Int) (h : 1 < 3) : (k3 a b c)[1]'h = b := rfl
@[go_sem] theorem k3_2 (a b c : Int) (h : 2 < 3) : (k3 a b c)[2]'h = c := rfl
@[go_sem] theorem k3_s0 (a b c x : Int) (h : 0 < 3) : (k3 a b c).set 0 x h = k3 x b c := rfl
@[go_sem] theorem k3_s1 (a b c x : Int) (h : 1 < 3) : (k3 a b c).set 1 x h = k3 a x c := rfl
@[go_sem] theorem k3_s2 (a b c x : Int) (h : 2 < 3) : (k3 a b c).set 2 x h = k3 a b x := rfl
@[go_sem] theorem k3_zero : (Vector.replicate 3 0 : Vector Int 3) = k3 0 0 0 := rfl
@[go_sem] theorem safe_K3 {n : Nat} (v : Vector Int n) : (encV (AV.int .i64) v).safe = true := by simp [encV, AV.safe]
theorem ino_eta (i : Ino) (h1 : i.live = true) : (⟨true, i.stamp, i.links, i.part⟩ : Ino) = i := by cases i; simp at h1; rw [h1]
section
variable {T : Nat → Option MFun} {cx : Cx} {k : List Item} {kill : List Nat} {r : List MOp} {sl : Slots} {own : Own} {h : HP} {Q : St → Prop}
def three (x y z : Option AV) : Option AV := match x, y, z with
  | some x, some y, some z => some (.tup (.cons x (.cons y (.cons z .unit))))
  | _, _, _ => none
@[go_sem] theorem three_some (x y z : AV) : three (some x) (some y) (some z) = some (.tup (.cons x (.cons y (.cons z .unit)))) := rfl
@[go_sem] theorem results_three {a b c : MRes} {s : St} : results cx s [a, b, c] = three (res1 cx s a) (res1 cx s b) (res1 cx s c) := by
  simp only [results, resList, three, res1]
  cases resOf cx s a <;> cases resOf cx s b <;> cases resOf cx s c <;> rfl
@[go_sem] theorem extV_2 (a b c d : AV) : extV (.tup (.cons a (.cons b (.cons c d)))) 2 = if c.safe = true then some c else none := rfl
end
def mendIno (m : Img) (n : Nat) : Ino :=
  if (m.ino n).live = false then m.ino n else if refs m n = 0 then Ino.none else { m.ino n with links := refs m n }
def mendI (m : Img) : Nat → Img
  | 0 => m
  | k + 1 => (mendI m k).setIno k (mendIno m k)
def loose (m : Img) (x : Nat) : Bool := !decide (m.dat x = Dat.zero) && !held m x
def looseDat (m : Img) (x : Nat) : Dat := if loose m x = true then Dat.zero else m.dat x
def mendD (m : Img) : Nat → Img
  | 0 => m
  | k + 1 => (mendD m k).setDat k (looseDat m k)
def lostF (m : Img) (k : Nat) : Nat := sumN k fun n => b2n ((m.ino n).live && decide (refs m n = 0))
def lostC (m : Img) (k : Nat) : Nat := sumN k fun n => b2n ((m.ino n).live && !decide (refs m n = 0) && !decide ((m.ino n).links = refs m n))
def lostD (m : Img) (k : Nat) : Nat := sumN k fun x => b2n (loose m x)
def mended (m : Img) : Img := mendD (mendI m 8) 9
theorem mendI_ent (m : Img) (d s : Nat) : ∀ k, (mendI m k).ent d s = m.ent d s
  | 0 => rfl
  | k + 1 => by rw [mendI, ent_setIno, mendI_ent m d s k]
theorem mendI_dat (m : Img) (x : Nat) : ∀ k, (mendI m k).dat x = m.dat x
  | 0 => rfl
  | k + 1 => by rw [mendI, dat_setIno, mendI_dat m x k]
theorem mendI_ino (m : Img) (n : Nat) : ∀ k, (mendI m k).ino n = if n < k ∧ n < 8 then mendIno m n else m.ino n
  | 0 => by rw [if_neg (by omega)]; rfl
  | k + 1 => by
    rw [mendI, ino_setIno, mendI_ino m n k]
    by_cases e : k = n
    · subst e
      by_cases h8 : k < 8
      · rw [if_pos ⟨rfl, h8⟩, if_pos ⟨by omega, h8⟩]
      · rw [if_neg (by omega), if_neg (by omega), if_neg (by omega)]
    · rw [if_neg (by omega)]
      by_cases h8 : n < k ∧ n < 8
      · rw [if_pos h8, if_pos (by omega)]
      · rw [if_neg h8, if_neg (by omega)]
theorem refs_congr {m m' : Img} (h : ∀ d s, m.ent d s = m'.ent d s) (i : Int) : refs m i = refs m' i := by
  simp only [refs, refsRow, leads, h]
theorem mendI_refs (m : Img) (k : Nat) (i : Int) : refs (mendI m k) i = refs m i := refs_congr (fun d s => mendI_ent m d s k) i
theorem mendD_ino (m : Img) (n : Nat) : ∀ k, (mendD m k).ino n = m.ino n
  | 0 => rfl
  | k + 1 => by rw [mendD, ino_setDat, mendD_ino m n k]
theorem mendD_ent (m : Img) (d s : Nat) : ∀ k, (mendD m k).ent d s = m.ent d s
  | 0 => rfl
  | k + 1 => by rw [mendD, ent_setDat, mendD_ent m d s k]
theorem mendD_dat (m : Img) (x : Nat) : ∀ k, (mendD m k).dat x = if x < k ∧ x < 9 then looseDat m x else m.dat x
  | 0 => by rw [if_neg (by omega)]; rfl
  | k + 1 => by
    rw [mendD, dat_setDat, mendD_dat m x k]
    by_cases e : k = x
    · subst e
      by_cases h8 : k < 9
      · rw [if_pos ⟨rfl, h8⟩, if_pos ⟨by omega, h8⟩]
      · rw [if_neg (by omega), if_neg (by omega), if_neg (by omega)]
    · rw [if_neg (by omega)]
      by_cases h8 : x < k ∧ x < 9
      · rw [if_pos h8, if_pos (by omega)]
      · rw [if_neg h8, if_neg (by omega)]
theorem held_congr {m m' : Img} (h : ∀ n, m.ino n = m'.ino n) (x : Int) : held m x = held m' x := by simp only [held, h]
theorem mendD_held (m : Img) (k : Nat) (x : Int) : held (mendD m k) x = held m x := held_congr (fun n => mendD_ino m n k) x
theorem setIno_self (m : Img) {n : Nat} {y : Ino} (h : y = m.ino n) : m.setIno n y = m := by
  subst h
  refine Img.ext_of (fun k hk => ?_) (fun d s _ _ => by rw [ent_setIno]) (fun x _ => by rw [dat_setIno])
  rw [ino_setIno]; split
  · rename_i h; rw [h.1]
  · rfl
theorem setDat_self (m : Img) {n : Nat} {y : Dat} (h : y = m.dat n) : m.setDat n y = m := by
  subst h
  refine Img.ext_of (fun k hk => by rw [ino_setDat]) (fun d s _ _ => by rw [ent_setDat]) (fun x _ => ?_)
  rw [dat_setDat]; split
  · rename_i h; rw [h.1]
  · rfl
theorem lostF_le (m : Img) (k : Nat) : lostF m k ≤ k := by have := sumN_le (fun n => b2n_le ((m.ino n).live && decide (refs m n = 0))) k; simpa [lostF] using this
theorem lostC_le (m : Img) (k : Nat) : lostC m k ≤ k := by have := sumN_le (fun n => b2n_le ((m.ino n).live && !decide (refs m n = 0) && !decide ((m.ino n).links = refs m n))) k; simpa [lostC] using this
theorem lostD_le (m : Img) (k : Nat) : lostD m k ≤ k := by have := sumN_le (fun n => b2n_le (loose m n)) k; simpa [lostD] using this
def mendV (m : Img) : Img := if check m = 0 then mended m else Img.zero
def mendA (m : Img) : Nat := if check m = 0 then lostF m 8 else 0
def mendB (m : Img) : Nat := if check m = 0 then lostC m 8 else 0
def mendC (m : Img) : Nat := if check m = 0 then lostD (mendI m 8) 9 else 0
section
variable {cx : Cx} {h : HP} {p p' : Id} {q q' : List Nat} {m m' : Img}
theorem Mend_ok (hs : m.small) : Ok tbl cx Fn.mend_Mend (St.enter [m.enc] h) fun v h' => v = .tup (.cons (mendV m).enc (.cons (encLost (mendA m) (mendB m) (mendC m)) (.cons (.int .i64 (check m)) .unit))) ∧ h' = h := by
  rw [Ok_eq]
  simp (config := { maxSteps := 1000000 }) (disch := omega) only [go_sem]
  refine W_callp rfl ⟨rfl, rfl⟩ (by simp only [go_sem]; exact Check_ok (m := m) hs (below_stk _ _) (by simp only [go_sem, HP.push_rd_own])) ?_
  simp (config := { maxSteps := 1000000 }) (disch := omega) only [go_sem]
  by_cases hc : check m = 0
  · simp (config := { maxSteps := 1000000 }) (disch := omega) only [go_sem, hc]
    refine W_for 8 (fun n => ⟨[(1, .ptr (.stk cx.lvl 1) [] tImage), (2, .ptr (.stk cx.lvl 2) [] tImage), (3, .ptr (.stk cx.lvl 3) [] tLost), (6, .ptr (.stk cx.lvl 6) [] tLost), (17, .int .i64 n)],
      [(1, ⟨tImage, (mendI m n).enc⟩), (2, ⟨tImage, Img.zero.enc⟩), (3, ⟨tLost, encLost 0 0 0⟩), (6, ⟨tLost, encLost (lostF m n) (lostC m n) 0⟩)], h⟩) (by simp only [go_sem] <;> rfl) fun n hn ih => ?_
    have hF := lostF_le m n
    have hC := lostC_le m n
    by_cases hlt : n < 8
    · have hI : (mendI m n).ino n = m.ino n := by rw [mendI_ino, if_neg (by omega)]
      simp (config := { maxSteps := 1000000 }) (disch := omega) only [go_sem, hlt]
      refine W_callp rfl ⟨rfl, rfl⟩ (by simp only [go_sem]; exact Refs_ok (m := mendI m n) (below_stk _ _) (by simp only [go_sem, HP.push_rd_own])) ?_
      simp (config := { maxSteps := 1000000 }) (disch := omega) only [go_sem, hlt, mendI_refs, hI]
      cases hl : (m.ino n).live with
      | false =>
        simp (config := { maxSteps := 1000000 }) (disch := omega) only [go_sem]
        refine ih _ hlt ?_
        have e1 : lostF m (n + 1) = lostF m n := by simp [lostF, sumN, hl, b2n]
        have e2 : lostC m (n + 1) = lostC m n := by simp [lostC, sumN, hl, b2n]
        have e3 : mendI m (n + 1) = mendI m n := by rw [mendI]; exact setIno_self _ (by simp [mendIno, hl, hI])
        simp only [go_sem, e1, e2, e3]
      | true =>
        by_cases hr : refs m n = 0
        · simp (config := { maxSteps := 1000000 }) (disch := omega) only [go_sem, hr]
          refine W_callp rfl ⟨rfl, rfl⟩ (by simp only [go_sem]; exact Free_ok) ?_
          simp (config := { maxSteps := 1000000 }) (disch := omega) only [go_sem, hr]
          refine ih _ hlt ?_
          have e1 : lostF m (n + 1) = lostF m n + 1 := by simp [lostF, sumN, hl, hr, b2n]
          have e2 : lostC m (n + 1) = lostC m n := by simp [lostC, sumN, hl, hr, b2n]
          have e3 : mendI m (n + 1) = (mendI m n).setIno n Ino.none := by rw [mendI]; simp [mendIno, hl, hr]
          simp only [go_sem, e1, e2, e3]
        · by_cases hk : (m.ino n).links = refs m n
          · simp (config := { maxSteps := 1000000 }) (disch := omega) only [go_sem, hk, hI, hlt]
            refine ih _ hlt ?_
            have e1 : lostF m (n + 1) = lostF m n := by simp [lostF, sumN, hl, hr, b2n]
            have e2 : lostC m (n + 1) = lostC m n := by simp [lostC, sumN, hl, hr, hk, b2n]
            have e3 : mendI m (n + 1) = mendI m n := by rw [mendI]; exact setIno_self _ (by rw [hI]; simp only [mendIno, hl, hr, Bool.true_eq_false, if_false, ← hk]; exact ino_eta _ hl)
            simp only [go_sem, e1, e2, e3]
          · simp (config := { maxSteps := 1000000 }) (disch := omega) only [go_sem, hk, hI, hlt]
            refine ih _ hlt ?_
            have e1 : lostF m (n + 1) = lostF m n := by simp [lostF, sumN, hl, hr, b2n]
            have e2 : lostC m (n + 1) = lostC m n + 1 := by simp [lostC, sumN, hl, hr, hk, b2n]
            have e3 : mendI m (n + 1) = (mendI m n).setIno n ⟨(m.ino n).live, (m.ino n).stamp, refs m n, (m.ino n).part⟩ := by rw [mendI]; simp [mendIno, hl, hr]
            simp only [go_sem, e1, e2, e3]
    · obtain rfl : n = 8 := by omega
      simp (config := { maxSteps := 1000000 }) (disch := omega) only [go_sem]
      refine W_for 9 (fun x => ⟨[(1, .ptr (.stk cx.lvl 1) [] tImage), (2, .ptr (.stk cx.lvl 2) [] tImage), (3, .ptr (.stk cx.lvl 3) [] tLost), (6, .ptr (.stk cx.lvl 6) [] tLost), (57, .int .i64 x)],
        [(1, ⟨tImage, (mendD (mendI m 8) x).enc⟩), (2, ⟨tImage, Img.zero.enc⟩), (3, ⟨tLost, encLost 0 0 0⟩), (6, ⟨tLost, encLost (lostF m 8) (lostC m 8) (lostD (mendI m 8) x)⟩)], h⟩) (by simp only [go_sem] <;> rfl) fun x hx ih2 => ?_
      have hD := lostD_le (mendI m 8) x
      by_cases hlt2 : x < 9
      · have hX : (mendD (mendI m 8) x).dat x = (mendI m 8).dat x := by rw [mendD_dat, if_neg (by omega)]
        have l0 : loose (mendI m 8) x = false → mendD (mendI m 8) (x + 1) = mendD (mendI m 8) x ∧ lostD (mendI m 8) (x + 1) = lostD (mendI m 8) x := fun h => by
          refine ⟨?_, by simp [lostD, sumN, h, b2n]⟩
          rw [mendD]; exact setDat_self _ (by rw [hX]; simp [looseDat, h])
        have l1 : loose (mendI m 8) x = true → mendD (mendI m 8) (x + 1) = (mendD (mendI m 8) x).setDat x Dat.zero ∧ lostD (mendI m 8) (x + 1) = lostD (mendI m 8) x + 1 := fun h => by
          refine ⟨?_, by simp [lostD, sumN, h, b2n]⟩
          rw [mendD]; simp [looseDat, h]
        simp (config := { maxSteps := 1000000 }) (disch := omega) only [go_sem, hlt2, hX]
        by_cases hz : (mendI m 8).dat x = Dat.zero
        · obtain ⟨e1, e2⟩ := l0 (by simp [loose, hz])
          simp (config := { maxSteps := 1000000 }) (disch := omega) only [go_sem, hz]
          refine ih2 _ hlt2 ?_
          simp only [go_sem, e1, e2]
        · simp (config := { maxSteps := 1000000 }) (disch := omega) only [go_sem, hz]
          refine W_callp rfl ⟨rfl, rfl⟩ (by simp only [go_sem]; exact Holds_ok (m := mendD (mendI m 8) x) (below_stk _ _) (by simp only [go_sem, HP.push_rd_own])) ?_
          simp (config := { maxSteps := 1000000 }) (disch := omega) only [go_sem, mendD_held]
          cases hh : held (mendI m 8) x with
          | true =>
            obtain ⟨e1, e2⟩ := l0 (by simp [loose, hh])
            simp (config := { maxSteps := 1000000 }) (disch := omega) only [go_sem, hh]
            refine ih2 _ hlt2 ?_
            simp only [go_sem, e1, e2]
          | false =>
            obtain ⟨e1, e2⟩ := l1 (by simp [loose, hz, hh])
            simp (config := { maxSteps := 1000000 }) (disch := omega) only [go_sem, hh, hlt2]
            refine ih2 _ hlt2 ?_
            simp only [go_sem, e1, e2]
      · obtain rfl : x = 9 := by omega
        simp (config := { maxSteps := 1000000 }) (disch := omega) only [go_sem]
        simp [mendV, mendA, mendB, mendC, mended, hc]
  · simp (config := { maxSteps := 1000000 }) (disch := omega) only [go_sem, hc]
    simp [mendV, mendA, mendB, mendC, hc]
end
end Go.Mini

namespace Go.Mini
set_option linter.unusedSimpArgs false
set_option linter.unusedVariables false
set_option maxHeartbeats 4000000
set_option maxRecDepth 100000
theorem mended_ent (m : Img) (d s : Nat) : (mended m).ent d s = m.ent d s := by rw [mended, mendD_ent, mendI_ent]
theorem mended_ino (m : Img) {n : Nat} (hn : n < 8) : (mended m).ino n = mendIno m n := by rw [mended, mendD_ino, mendI_ino, if_pos ⟨hn, hn⟩]
theorem mended_dat (m : Img) {x : Nat} (hx : x < 9) : (mended m).dat x = looseDat (mendI m 8) x := by rw [mended, mendD_dat, if_pos ⟨hx, hx⟩]
theorem mended_refs (m : Img) (i : Int) : refs (mended m) i = refs m i := refs_congr (fun d s => mended_ent m d s) i
theorem mendIno_live {m : Img} {n : Nat} : (mendIno m n).live = true ↔ (m.ino n).live = true ∧ ¬refs m n = 0 := by
  unfold mendIno
  cases hl : (m.ino n).live with
  | false => simp [hl]
  | true =>
    by_cases hr : refs m n = 0
    · simp [hr, Ino.none]
    · simp [hr, hl]
theorem mendIno_of {m : Img} {n : Nat} (h : (mendIno m n).live = true) : mendIno m n = { m.ino n with links := refs m n } := by
  obtain ⟨h1, h2⟩ := mendIno_live.1 h
  simp [mendIno, h1, h2]
theorem mendIno_dead {m : Img} {n : Nat} (hc : check m = 0) (hn : n < 8) (h : (mendIno m n).live = false) : mendIno m n = Ino.none := by
  unfold mendIno at h ⊢
  cases hl : (m.ino n).live with
  | false =>
    have := (check_parts hc).2.1 n hn
    simp only [inoFault, hl, if_true] at this
    simp only [if_true]
    split at this
    · assumption
    · exact absurd this (by decide)
  | true =>
    by_cases hr : refs m n = 0
    · simp [hr]
    · simp [hl, hr] at h
theorem ino_parts {m : Img} (hc : check m = 0) {n : Nat} (hn : n < 8) (hl : (m.ino n).live = true) : 1 ≤ (m.ino n).stamp ∧ (refs m n : Int) ≤ (m.ino n).links ∧ ∀ p, p < 2 → partFault m (m.ino n) p = 0 := by
  have h := (check_parts hc).2.1 n hn
  simp only [inoFault, hl, Bool.true_eq_false, if_false] at h
  split at h
  · exact absurd h (by decide)
  · rename_i h1
    exact ⟨by omega, by omega, firstI_zero.1 h⟩
theorem part_dat {m : Img} {i : Ino} {p : Nat} (h : partFault m i p = 0) : i.prt p = -1 ∨ (0 ≤ i.prt p ∧ i.prt p < 9 ∧ (m.dat (i.prt p).toNat).of = i.stamp) := by
  unfold partFault at h
  split at h
  · exact absurd h (by decide)
  · rename_i h1
    split at h
    · exact absurd h (by decide)
    · rename_i h2
      by_cases h0 : 0 ≤ i.prt p
      · right; refine ⟨h0, by omega, ?_⟩
        by_cases he : (m.dat (i.prt p).toNat).of = i.stamp
        · exact he
        · exact absurd ⟨h0, he⟩ h2
      · left; omega
theorem mend_held {m : Img} {n p : Nat} (hn : n < 8) (hp : p < 2) (hl : (mendIno m n).live = true) (h0 : 0 ≤ (m.ino n).prt p) (h9 : (m.ino n).prt p < 9) : (mended m).dat ((m.ino n).prt p).toNat = m.dat ((m.ino n).prt p).toNat := by
  rw [mended_dat m (by omega)]
  have : held (mendI m 8) (((m.ino n).prt p).toNat : Nat) = true := by
    refine anyN_at hn ?_
    have e : (mendI m 8).ino n = mendIno m n := by rw [mendI_ino, if_pos ⟨hn, hn⟩]
    have e2 : ∀ q, (mendIno m n).prt q = (m.ino n).prt q := fun q => by rw [mendIno_of hl]; rfl
    rw [e, hl, e2, e2]
    have e3 : (((m.ino n).prt p).toNat : Int) = (m.ino n).prt p := by omega
    rw [e3]
    obtain rfl | rfl : p = 0 ∨ p = 1 := by omega
    all_goals simp
  simp only [looseDat, loose, this, mendI_dat, Bool.not_true, Bool.and_false, Bool.false_eq_true, if_false]
theorem mended_check {m : Img} (hc : check m = 0) : check (mended m) = 0 := by
  obtain ⟨h1, h2, h3⟩ := check_parts hc
  refine check_of (fun d hd s hs => ?_) (fun n hn => ?_) ?_
  · have e' := mended_ent m d s
    rcases entry_parts (h1 d hd s hs) with e0 | ⟨a1, a2, a3, a4, a5, a6, a7⟩
    · rw [e0] at e'
      simp [entryFault, e', show Ent.zero.name = ⟨#[]⟩ from rfl]
    · have hr : ¬refs m ((m.ent d s).ino.toNat : Nat) = 0 := by
        have hl : leads m d s ((m.ent d s).ino.toNat : Nat) = true := by
          have : ((m.ent d s).ino.toNat : Int) = (m.ent d s).ino := by omega
          simp [leads, a1, this]
        have g1 := sumN_ge (f := fun s => b2n (leads m d s ((m.ent d s).ino.toNat : Nat))) hs
        have g2 : refsRow m ((m.ent d s).ino.toNat : Nat) d 4 ≤ refs m ((m.ent d s).ino.toNat : Nat) := sumN_ge (f := fun d => refsRow m _ d 4) hd
        have g3 : b2n (leads m d s ((m.ent d s).ino.toNat : Nat)) ≤ refsRow m ((m.ent d s).ino.toNat : Nat) d 4 := sumN_ge (f := fun t => b2n (leads m d t _)) hs
        rw [hl] at g3
        simp only [b2n, if_true] at g3
        omega
      have hlive := mendIno_live.2 ⟨a6, hr⟩
      have hino := mended_ino m (n := (m.ent d s).ino.toNat) (by omega)
      refine entry_of (by rw [e']; exact a1) (by rw [e']; exact a2) (by simpa only [mended_ent] using a3) (by rw [e']; exact a4) (by rw [e']; exact a5) (by rw [e', hino]; exact hlive) ?_
      rw [e', hino, mendIno_of hlive]; exact a7
  · have hino := mended_ino m hn
    simp only [inoFault]
    rw [hino]
    cases hl : (mendIno m n).live with
    | false => rw [mendIno_dead hc hn hl]; simp
    | true =>
      obtain ⟨l1, l2⟩ := mendIno_live.1 hl
      obtain ⟨p1, p2, p3⟩ := ino_parts hc hn l1
      have e := mendIno_of hl
      simp only [Bool.true_eq_false, if_false]
      rw [e, mended_refs]
      rw [if_neg (by simp only [not_or]; exact ⟨by omega, by omega⟩)]
      rw [firstI_zero]
      intro p hp
      rcases part_dat (p3 p hp) with hx | ⟨hx0, hx9, hof⟩
      · have : (({ m.ino n with links := (refs m n : Int) } : Ino)).prt p = -1 := hx
        simp [partFault, this]
      · have hd := mend_held hn hp hl hx0 hx9
        have e1 : (({ m.ino n with links := (refs m n : Int) } : Ino)).prt p = (m.ino n).prt p := rfl
        simp only [partFault, e1]
        rw [if_neg (by omega), if_neg]
        rintro ⟨_, hne⟩
        apply hne
        rw [hd]; exact hof
  · rw [← twiceR_eq]
    unfold twiceR
    rw [anyN_false]
    intro n hn
    rw [anyN_false]
    intro k hk
    rcases hb : pairBad (mended m) n k with _ | _
    · rfl
    · exfalso
      rw [pairBad_iff, mended_ino m hn, mended_ino m hk] at hb
      obtain ⟨b1, b2, b3⟩ := hb
      rw [mendIno_of b1, mendIno_of b2] at b3
      have : pairBad m n k = true := pairBad_iff.2 ⟨(mendIno_live.1 b1).1, (mendIno_live.1 b2).1, b3⟩
      have := twice_at hn hk this
      rw [h3] at this; exact absurd this (by simp)
theorem mended_exact {m : Img} (hc : check m = 0) : exact (mended m) = true := by
  simp only [exact, mended_check hc, decide_true, Bool.and_true, Bool.not_eq_true']
  rw [anyN_false]
  intro n hn
  rw [mended_ino m hn, mended_refs]
  cases hl : (mendIno m n).live with
  | false => rfl
  | true =>
    obtain ⟨l1, l2⟩ := mendIno_live.1 hl
    rw [mendIno_of hl]
    simp [l2]
theorem mended_small {m : Img} (h : m.small) : (mended m).small := fun d s => by rw [mended_ent]; exact h d s
end Go.Mini

namespace Go.Mini
set_option linter.unusedSimpArgs false
set_option linter.unusedVariables false
set_option maxHeartbeats 4000000
set_option maxRecDepth 100000
section
variable {cx : Cx} {h : HP} {p p' : Id} {q q' : List Nat} {m m' : Img}
@[go_sem] theorem eqV_parts (neg : Bool) (a b : Vector Int 2) : eqV tParts neg (encV (AV.int .i64) a) (encV (AV.int .i64) b) = some (.bool (if neg = true then !decide (a = b) else decide (a = b))) := eqV_of (fits_parts' a) (fits_parts' b) (eq_encV eq_int)
@[go_sem] theorem eqV_dirs (neg : Bool) (a b : Vector (Vector Ent 4) 3) : eqV tDirs neg (encV (encV Ent.enc) a) (encV (encV Ent.enc) b) = some (.bool (if neg = true then !decide (a = b) else decide (a = b))) := eqV_of (fits_dirs' a) (fits_dirs' b) (eq_encV fun v w => eq_row v w)
end
end Go.Mini

namespace Go.Mini
set_option linter.unusedSimpArgs false
set_option linter.unusedVariables false
set_option maxHeartbeats 4000000
set_option maxRecDepth 100000
def leadsE (y : Ent) (i : Int) : Bool := !decide (y.name = ⟨#[]⟩) && decide (y.ino = i)
theorem leads_E (m : Img) (d s : Nat) (i : Int) : leads m d s i = leadsE (m.ent d s) i := rfl
theorem refs_set {m : Img} {d s : Nat} {y : Ent} (hd : d < 3) (hs : s < 4) (i : Int) : refs m i + b2n (leadsE y i) = refs (m.setEnt d s y) i + b2n (leads m d s i) := by
  have ent : ∀ d' s', d' < 3 → s' < 4 → (m.setEnt d s y).ent d' s' = if d = d' ∧ s = s' then y else m.ent d' s' := fun d' s' h h' => by
    rw [ent_setEnt]
    by_cases e : d = d' ∧ s = s'
    · rw [if_pos ⟨e, h, h'⟩, if_pos e]
    · rw [if_neg (fun h' => e h'.1), if_neg e]
  have e0 : leads (m.setEnt d s y) d s i = leadsE y i := by rw [leads_E, ent d s hd hs, if_pos ⟨rfl, rfl⟩]
  have h2 : sumN 4 (fun t => b2n (leads m d t i)) + b2n (leads (m.setEnt d s y) d s i) = sumN 4 (fun t => b2n (leads (m.setEnt d s y) d t i)) + b2n (leads m d s i) := by
    have := sumN_upd (f := fun t => if t < 4 then b2n (leads m d t i) else 0) (g := fun t => if t < 4 then b2n (leads (m.setEnt d s y) d t i) else 0) (j := s) (n := 4) (fun t ht => by
      show (if t < 4 then b2n (leads m d t i) else 0) = if t < 4 then b2n (leads (m.setEnt d s y) d t i) else 0
      split
      · rename_i h4; rw [leads_congr (m := m) (m' := m.setEnt d s y) (by rw [ent d t hd h4, if_neg (fun h => ht h.2.symm)])]
      · rfl) hs
    have c1 : (sumN 4 fun t => if t < 4 then b2n (leads m d t i) else 0) = sumN 4 (fun t => b2n (leads m d t i)) := sumN_congr fun t ht => by simp [ht]
    have c2 : (sumN 4 fun t => if t < 4 then b2n (leads (m.setEnt d s y) d t i) else 0) = sumN 4 (fun t => b2n (leads (m.setEnt d s y) d t i)) := sumN_congr fun t ht => by simp [ht]
    rw [c1, c2] at this
    simpa [hs] using this
  have h3 : sumN 3 (fun e => refsRow m i e 4) + refsRow (m.setEnt d s y) i d 4 = sumN 3 (fun e => refsRow (m.setEnt d s y) i e 4) + refsRow m i d 4 := by
    have := sumN_upd (f := fun e => if e < 3 then refsRow m i e 4 else 0) (g := fun e => if e < 3 then refsRow (m.setEnt d s y) i e 4 else 0) (j := d) (n := 3) (fun t ht => by
      show (if t < 3 then refsRow m i t 4 else 0) = if t < 3 then refsRow (m.setEnt d s y) i t 4 else 0
      split
      · rename_i h3
        refine sumN_congr fun u hu => ?_
        rw [leads_congr (m := m) (m' := m.setEnt d s y) (by rw [ent t u h3 hu, if_neg (fun h => ht h.1.symm)])]
      · rfl) hd
    have c1 : (sumN 3 fun e => if e < 3 then refsRow m i e 4 else 0) = sumN 3 (fun e => refsRow m i e 4) := sumN_congr fun t ht => by simp [ht]
    have c2 : (sumN 3 fun e => if e < 3 then refsRow (m.setEnt d s y) i e 4 else 0) = sumN 3 (fun e => refsRow (m.setEnt d s y) i e 4) := sumN_congr fun t ht => by simp [ht]
    rw [c1, c2] at this
    simpa [hd] using this
  rw [e0] at h2
  simp only [refs, refsRow] at h3 ⊢
  omega
theorem entryAs_cases (now out : Img) (d s : Nat) : entryAs now out d s = out.ent d s ∨
    ((out.ent d s).name = ⟨#[]⟩ ∧ entryAs now out d s = now.ent d s ∧ 0 ≤ (now.ent d s).ino ∧ (now.ent d s).ino < 8 ∧ (out.ino (now.ent d s).ino.toNat).live = true ∧ (out.ino (now.ent d s).ino.toNat).stamp = (now.ent d s).stamp ∧
      (refs out (now.ent d s).ino : Int) < (out.ino (now.ent d s).ino.toNat).links) ∨
    (¬(out.ent d s).name = ⟨#[]⟩ ∧ entryAs now out d s = Ent.zero ∧ (1 < refs out (out.ent d s).ino ∨ refs now (out.ent d s).ino = 0)) := by
  unfold entryAs
  by_cases h1 : now.ent d s = out.ent d s
  · simp [h1]
  by_cases h2 : (out.ent d s).name = ⟨#[]⟩
  · by_cases h3 : (now.ent d s).ino < 0 ∨ 8 ≤ (now.ent d s).ino
    · simp [h1, h2, h3]
    · by_cases h4 : (out.ino (now.ent d s).ino.toNat).live = true ∧ (out.ino (now.ent d s).ino.toNat).stamp = (now.ent d s).stamp ∧ (refs out (now.ent d s).ino : Int) < (out.ino (now.ent d s).ino.toNat).links
      · right; left
        refine ⟨h2, ?_, by omega, by omega, h4.1, h4.2.1, h4.2.2⟩
        simp only [h1, h2, h3, h4, if_true, if_false, and_self]
      · left
        simp only [h1, h2, h3, h4, if_true, if_false]
  · by_cases h3 : 1 < refs out (out.ent d s).ino ∨ refs now (out.ent d s).ino = 0
    · right; right
      exact ⟨h2, by simp only [h1, h2, h3, if_true, if_false], h3⟩
    · left
      simp only [h1, h2, h3, if_false]
theorem leadsE_zero (i : Int) : leadsE Ent.zero i = false := rfl
theorem leadsE_iff {y : Ent} {i : Int} : leadsE y i = true ↔ ¬y.name = ⟨#[]⟩ ∧ y.ino = i := by simp [leadsE]
theorem wrDir_ok (now disk : Img) {d0 : Nat} (hd : d0 < 3) : ∀ k, k ≤ 4 →
    (∀ n, (wrDir now disk d0 k).ino n = disk.ino n) ∧ (∀ j, (wrDir now disk d0 k).dat j = disk.dat j) ∧ (∀ d s, d < 3 → s < 4 → (d ≠ d0 ∨ k ≤ s) → (wrDir now disk d0 k).ent d s = disk.ent d s) ∧
    (∀ s, s < k → (wrDir now disk d0 k).ent d0 s = disk.ent d0 s ∨ (wrDir now disk d0 k).ent d0 s = Ent.zero ∨
      ((wrDir now disk d0 k).ent d0 s = now.ent d0 s ∧ 0 ≤ (now.ent d0 s).ino ∧ (now.ent d0 s).ino < 8 ∧ (disk.ino (now.ent d0 s).ino.toNat).live = true ∧ (disk.ino (now.ent d0 s).ino.toNat).stamp = (now.ent d0 s).stamp)) ∧
    (∀ n : Nat, 0 < refs disk n → 0 < refs now n → 0 < refs (wrDir now disk d0 k) n) ∧
    (∀ n : Nat, refs (wrDir now disk d0 k) n ≤ refs disk n ∨ ((disk.ino n).live = true ∧ (refs (wrDir now disk d0 k) n : Int) ≤ (disk.ino n).links))
  | 0, _ => ⟨fun _ => rfl, fun _ => rfl, fun _ _ _ _ _ => rfl, fun s hs => by omega, fun n h _ => h, fun n => .inl (Nat.le_refl _)⟩
  | k + 1, hk => by
    obtain ⟨i1, i2, i3, i4, i5, i6⟩ := wrDir_ok now disk hd k (by omega)
    have hk4 : k < 4 := by omega
    have hR := fun i : Int => refs_set (m := wrDir now disk d0 k) (y := entryAs now (wrDir now disk d0 k) d0 k) hd hk4 i
    have hb : (wrDir now disk d0 k).ent d0 k = disk.ent d0 k := i3 d0 k hd hk4 (.inr (Nat.le_refl _))
    have hE := fun d s (h : d < 3) (h' : s < 4) => ent_setEnt (wrDir now disk d0 k) d0 k (entryAs now (wrDir now disk d0 k) d0 k) d s
    have hC := entryAs_cases now (wrDir now disk d0 k) d0 k
    simp only [wrDir]
    generalize wrDir now disk d0 k = out at *
    generalize entryAs now out d0 k = y at *
    have hE' : (out.setEnt d0 k y).ent d0 k = y := by rw [hE d0 k hd hk4, if_pos ⟨⟨rfl, rfl⟩, hd, hk4⟩]
    refine ⟨fun n => by rw [ino_setEnt, i1], fun j => by rw [dat_setEnt, i2], fun d s h h' hne => ?_, fun s hs => ?_, fun n h1 h2 => ?_, fun n => ?_⟩
    · rw [hE d s h h', if_neg (by omega)]
      exact i3 d s h h' (by omega)
    · by_cases e : s = k
      · subst e
        rw [hE']
        rcases hC with c | ⟨c1, c2, c3, c4, c5, c6, c7⟩ | ⟨c1, c2, c3⟩
        · left; rw [c, hb]
        · right; right
          rw [i1] at c5 c6
          exact ⟨c2, c3, c4, c5, c6⟩
        · right; left; exact c2
      · rw [hE d0 s hd (by omega), if_neg (by omega)]
        exact i4 s (by omega)
    · have hr := hR n
      have h5 := i5 n h1 h2
      rcases hC with c | ⟨c1, c2, c3, c4, c5, c6, c7⟩ | ⟨c1, c2, c3⟩
      · rw [c] at hr
        rw [← leads_E] at hr
        rw [c]; omega
      · have : leads out d0 k n = false := by simp [leads, c1]
        rw [this] at hr
        simp only [b2n, Bool.false_eq_true, if_false, Nat.add_zero] at hr
        omega
      · rw [c2, leadsE_zero] at hr
        rw [c2]
        cases hl : leads out d0 k n with
        | false => rw [hl] at hr; simp only [b2n] at hr; omega
        | true =>
          rw [hl] at hr
          rw [leads_E, leadsE_iff] at hl
          rw [hl.2] at c3
          simp only [b2n, if_true] at hr
          rcases c3 with c3 | c3
          · simp at hr; omega
          · omega
    · have hr := hR n
      have h6 := i6 n
      rcases hC with c | ⟨c1, c2, c3, c4, c5, c6, c7⟩ | ⟨c1, c2, c3⟩
      · rw [c] at hr
        rw [← leads_E] at hr
        have : refs (out.setEnt d0 k (out.ent d0 k)) n = refs out n := by omega
        rw [c, this]; exact h6
      · have : leads out d0 k n = false := by simp [leads, c1]
        rw [this] at hr
        cases hl : leadsE y n with
        | false =>
          rw [hl] at hr
          have : refs (out.setEnt d0 k y) n = refs out n := by simp only [b2n] at hr; omega
          rw [this]; exact h6
        | true =>
          rw [hl] at hr
          rw [c2, leadsE_iff] at hl
          rw [hl.2] at c5 c7
          rw [i1, Int.toNat_natCast] at c5 c7
          right
          refine ⟨c5, ?_⟩
          simp [b2n] at hr
          omega
      · rw [c2, leadsE_zero] at hr
        rw [c2]
        simp only [b2n, Bool.false_eq_true, if_false, Nat.add_zero] at hr
        rcases h6 with h6 | ⟨h6, h7⟩
        · left; omega
        · right; exact ⟨h6, by omega⟩
theorem wrInodes_ent (now disk : Img) (n d s : Nat) : ∀ k, (wrInodes now disk n k).ent d s = disk.ent d s
  | 0 => rfl
  | k + 1 => by rw [wrInodes, ent_setIno, wrInodes_ent now disk n d s k]
theorem write_last (now disk : Img) (b : Int) : (∀ n : Nat, 0 < refs disk n → 0 < refs now n → 0 < refs (writeAs now disk b).1 n) ∧
    (∀ n : Nat, n < 8 → refs disk n < refs (writeAs now disk b).1 n → ((writeAs now disk b).1.ino n).live = true ∧ (refs (writeAs now disk b).1 n : Int) ≤ ((writeAs now disk b).1.ino n).links) ∧
    (∀ d s, d < 3 → s < 4 → disk.ent d s = (writeAs now disk b).1.ent d s ∨ ((writeAs now disk b).1.ent d s).name = ⟨#[]⟩ ∨
      ((writeAs now disk b).1.ent d s = now.ent d s ∧ 0 ≤ ((writeAs now disk b).1.ent d s).ino ∧ ((writeAs now disk b).1.ent d s).ino < 8 ∧ (disk.ino ((writeAs now disk b).1.ent d s).ino.toNat).stamp = ((writeAs now disk b).1.ent d s).stamp)) := by
  have same : ∀ x : Img, (∀ d s, x.ent d s = disk.ent d s) → (∀ n : Nat, 0 < refs disk n → 0 < refs now n → 0 < refs x n) ∧
      (∀ n : Nat, n < 8 → refs disk n < refs x n → (x.ino n).live = true ∧ (refs x n : Int) ≤ (x.ino n).links) ∧
      (∀ d s, d < 3 → s < 4 → disk.ent d s = x.ent d s ∨ (x.ent d s).name = ⟨#[]⟩ ∨ (x.ent d s = now.ent d s ∧ 0 ≤ (x.ent d s).ino ∧ (x.ent d s).ino < 8 ∧ (disk.ino (x.ent d s).ino.toNat).stamp = (x.ent d s).stamp)) := by
    intro x hx
    have hr : ∀ i, refs x i = refs disk i := fun i => refs_congr hx i
    exact ⟨fun n h1 _ => by rw [hr]; exact h1, fun n _ h => by rw [hr] at h; omega, fun d s _ _ => .inl (hx d s).symm⟩
  obtain ⟨n, hn, e⟩ | ⟨n, hn, e⟩ | ⟨n, hn, e⟩ | e := blockOf_cases b
  · rw [writeAs_i e]
    exact same _ fun d s => wrInodes_ent now disk n d s 4
  · rw [writeAs_d e]
    obtain ⟨i1, i2, i3, i4, i5, i6⟩ := wrDir_ok now disk hn 4 (Nat.le_refl _)
    refine ⟨i5, fun k hk hlt => ?_, fun d s hd hs => ?_⟩
    · have hlt : refs disk k < refs (wrDir now disk n 4) k := hlt
      rcases i6 k with h | h
      · omega
      · show ((wrDir now disk n 4).ino k).live = true ∧ _
        rw [i1]; exact h
    · show disk.ent d s = (wrDir now disk n 4).ent d s ∨ _
      by_cases hdn : d = n
      · subst hdn
        rcases i4 s hs with h | h | ⟨h1, h2, h3, _, h4⟩
        · exact .inl h.symm
        · right; left; show ((wrDir now disk d 4).ent d s).name = _
          rw [h]; rfl
        · right; right
          show (wrDir now disk d 4).ent d s = _ ∧ 0 ≤ ((wrDir now disk d 4).ent d s).ino ∧ _
          rw [h1]; exact ⟨rfl, h2, h3, h4⟩
      · exact .inl (i3 d s hd hs (.inl hdn)).symm
  · rw [writeAs_a e]
    exact same _ fun d s => ent_setDat ..
  · rw [writeAs_n e]
    exact same _ fun d s => rfl
end Go.Mini

namespace Go.Mini
namespace Fn
@[reducible] def cache_Cache_Sync.r0 : List MOp := [⟨some 2, .mov (.c (.int .i64 0)), none⟩]
@[reducible] def cache_Cache_Sync.r1 : List MOp := [⟨some 3, .mov (.c (.int .i64 0)), none⟩]
@[reducible] def cache_Cache_Sync.r2 : List MOp := [⟨some 5, .mov (.s 3), none⟩, ⟨some 6, .bin .lss (.s 5) (.c (.int .i64 8)), none⟩, ⟨some 7, .mov (.s 6), none⟩, ⟨some 8, .mov (.s 0), some (7, true)⟩, ⟨some 9, .call false [] 211 [(.s 8)], some (7, true)⟩, ⟨some 10, .un .not (.s 9), some (7, true)⟩, ⟨some 11, .pick (.s 7) (.s 10) (.c (.bool false)), none⟩]
@[reducible] def cache_Cache_Sync.r3 : List MOp := [⟨some 4, .mov (.c (.int .i64 13)), none⟩]
@[reducible] def cache_Cache_Sync.r4 : List MOp := [⟨some 12, .mov (.s 4), none⟩, ⟨some 13, .bin .geq (.s 12) (.c (.int .i64 0)), none⟩]
@[reducible] def cache_Cache_Sync.r5 : List MOp := [⟨some 14, .mov (.s 4), none⟩, ⟨some 15, .bin .sub (.s 14) (.c (.int .i64 1)), none⟩, ⟨some 4, .mov (.s 15), none⟩]
@[reducible] def cache_Cache_Sync.r6 : List MOp := [⟨some 16, .mov (.s 0), none⟩, ⟨some 17, .mov (.s 4), none⟩, ⟨some 18, .call false [] 212 [(.s 16), (.s 17)], none⟩]
@[reducible] def cache_Cache_Sync.r7 : List MOp := [⟨some 19, .mov (.s 3), none⟩, ⟨some 20, .bin .add (.s 19) (.c (.int .i64 1)), none⟩, ⟨some 3, .mov (.s 20), none⟩]
@[reducible] def cache_Cache_Sync.r8 : List MOp := [⟨some 21, .mov (.s 3), none⟩, ⟨some 2, .mov (.s 21), none⟩]
@[reducible] def cache_Cache_Sync.body : MC := (.seq (.reg false cache_Cache_Sync.r0 [2]) (.seq (.reg false cache_Cache_Sync.r1 []) (.seq (.block 0 (.loop [0, 3] [] (.seq (.seq (.reg false cache_Cache_Sync.r2 [5, 6, 7, 8, 9, 10]) (.cond (.s 11) .skip (.exit 0))) (.block 1 (.seq (.seq (.reg false cache_Cache_Sync.r3 []) (.block 2 (.loop [0, 3, 4] [] (.seq (.seq (.reg false cache_Cache_Sync.r4 [12]) (.cond (.s 13) .skip (.exit 2))) (.seq (.block 3 (.reg false cache_Cache_Sync.r6 [16, 17, 18])) (.reg false cache_Cache_Sync.r5 [14, 15])))))) (.reg false cache_Cache_Sync.r7 [19, 20])))))) (.seq (.reg false cache_Cache_Sync.r8 [3, 21]) .ret))))
@[reducible] def cache_Cache_Sync : MFun := { params := 1, nfree := 0, res := [.tmp 2], body := cache_Cache_Sync.body }
@[reducible] def cache_Cache_Disk.r0 : List MOp := [⟨some 2, .alloc false tImage, none⟩]
@[reducible] def cache_Cache_Disk.r1 : List MOp := [⟨some 3, .mov (.s 0), none⟩, ⟨some 4, .nilck (.s 3), none⟩, ⟨some 5, .fld tCache 1 tImage (.s 4), none⟩, ⟨some 6, .load false none tImage (.s 5), none⟩, ⟨none, .store tImage [] (.s 2) (.s 6), none⟩]
@[reducible] def cache_Cache_Disk.body : MC := (.seq (.reg false cache_Cache_Disk.r0 []) (.seq (.reg false cache_Cache_Disk.r1 [0, 3, 4, 5, 6]) .ret))
@[reducible] def cache_Cache_Disk : MFun := { params := 1, nfree := 0, res := [.cell 2 tImage], body := cache_Cache_Disk.body }
@[reducible] def cache_Cache_Dirty.r0 : List MOp := [⟨some 4, .mov (.c (.bool false)), none⟩]
@[reducible] def cache_Cache_Dirty.r1 : List MOp := [⟨some 9, .mov (.s 1), none⟩, ⟨some 10, .call false [] 7 [(.s 9)], none⟩, ⟨some 8, .mov (.s 10), none⟩, ⟨some 11, .ext (.s 8) 0, none⟩, ⟨some 12, .ext (.s 8) 1, none⟩, ⟨some 5, .mov (.s 11), none⟩, ⟨some 6, .mov (.s 12), none⟩]
@[reducible] def cache_Cache_Dirty.r2 : List MOp := [⟨some 13, .mov (.s 5), none⟩]
@[reducible] def cache_Cache_Dirty.r3 : List MOp := [⟨some 15, .bin .eql (.s 13) (.c (.str ⟨#[105, 110, 111, 100, 101, 115]⟩)), none⟩, ⟨some 14, .mov (.s 15), none⟩]
@[reducible] def cache_Cache_Dirty.r4 : List MOp := [⟨some 16, .mov (.s 6), none⟩, ⟨some 7, .mov (.s 16), none⟩]
@[reducible] def cache_Cache_Dirty.r5 : List MOp := [⟨some 17, .mov (.s 7), none⟩, ⟨some 18, .mov (.s 6), none⟩, ⟨some 19, .bin .add (.s 18) (.c (.int .i64 4)), none⟩, ⟨some 20, .bin .lss (.s 17) (.s 19), none⟩]
@[reducible] def cache_Cache_Dirty.r6 : List MOp := [⟨some 21, .mov (.s 7), none⟩, ⟨some 22, .bin .add (.s 21) (.c (.int .i64 1)), none⟩, ⟨some 7, .mov (.s 22), none⟩]
@[reducible] def cache_Cache_Dirty.r7 : List MOp := [⟨some 23, .mov (.s 0), none⟩, ⟨some 24, .mov (.s 7), none⟩, ⟨some 25, .nilck (.s 23), none⟩, ⟨some 26, .fld tCache 0 tImage (.s 25), none⟩, ⟨some 27, .fld tImage 0 tInodes (.s 26), none⟩, ⟨some 28, .idx 8 tInode (.s 27) (.s 24), none⟩, ⟨some 29, .load false none tInode (.s 28), none⟩, ⟨some 30, .mov (.s 0), none⟩, ⟨some 31, .mov (.s 7), none⟩, ⟨some 32, .nilck (.s 30), none⟩, ⟨some 33, .fld tCache 1 tImage (.s 32), none⟩, ⟨some 34, .fld tImage 0 tInodes (.s 33), none⟩, ⟨some 35, .idx 8 tInode (.s 34) (.s 31), none⟩, ⟨some 36, .load false none tInode (.s 35), none⟩, ⟨some 37, .eq true tInode (.s 29) (.s 36), none⟩]
@[reducible] def cache_Cache_Dirty.r8 : List MOp := [⟨some 4, .mov (.c (.bool true)), none⟩]
@[reducible] def cache_Cache_Dirty.r9 : List MOp := [⟨some 39, .bin .eql (.s 13) (.c (.str ⟨#[100, 105, 114]⟩)), none⟩, ⟨some 38, .mov (.s 39), none⟩]
@[reducible] def cache_Cache_Dirty.r10 : List MOp := [⟨some 40, .mov (.s 0), none⟩, ⟨some 41, .mov (.s 6), none⟩, ⟨some 42, .nilck (.s 40), none⟩, ⟨some 43, .fld tCache 0 tImage (.s 42), none⟩, ⟨some 44, .fld tImage 1 tDirs (.s 43), none⟩, ⟨some 45, .idx 3 tRow (.s 44) (.s 41), none⟩, ⟨some 46, .load false none tRow (.s 45), none⟩, ⟨some 47, .mov (.s 0), none⟩, ⟨some 48, .mov (.s 6), none⟩, ⟨some 49, .nilck (.s 47), none⟩, ⟨some 50, .fld tCache 1 tImage (.s 49), none⟩, ⟨some 51, .fld tImage 1 tDirs (.s 50), none⟩, ⟨some 52, .idx 3 tRow (.s 51) (.s 48), none⟩, ⟨some 53, .load false none tRow (.s 52), none⟩, ⟨some 54, .eq true tRow (.s 46) (.s 53), none⟩, ⟨some 4, .mov (.s 54), none⟩]
@[reducible] def cache_Cache_Dirty.r11 : List MOp := [⟨some 56, .bin .eql (.s 13) (.c (.str ⟨#[100, 97, 116, 97]⟩)), none⟩, ⟨some 55, .mov (.s 56), none⟩]
@[reducible] def cache_Cache_Dirty.r12 : List MOp := [⟨some 57, .mov (.s 0), none⟩, ⟨some 58, .mov (.s 6), none⟩, ⟨some 59, .nilck (.s 57), none⟩, ⟨some 60, .fld tCache 0 tImage (.s 59), none⟩, ⟨some 61, .fld tImage 2 tDatas (.s 60), none⟩, ⟨some 62, .idx 9 tData (.s 61) (.s 58), none⟩, ⟨some 63, .load false none tData (.s 62), none⟩, ⟨some 64, .mov (.s 0), none⟩, ⟨some 65, .mov (.s 6), none⟩, ⟨some 66, .nilck (.s 64), none⟩, ⟨some 67, .fld tCache 1 tImage (.s 66), none⟩, ⟨some 68, .fld tImage 2 tDatas (.s 67), none⟩, ⟨some 69, .idx 9 tData (.s 68) (.s 65), none⟩, ⟨some 70, .load false none tData (.s 69), none⟩, ⟨some 71, .eq true tData (.s 63) (.s 70), none⟩, ⟨some 4, .mov (.s 71), none⟩]
@[reducible] def cache_Cache_Dirty.r13 : List MOp := [⟨some 4, .mov (.c (.bool false)), none⟩]
@[reducible] def cache_Cache_Dirty.body : MC := (.seq (.reg false cache_Cache_Dirty.r0 [4]) (.seq (.reg false cache_Cache_Dirty.r1 [1, 8, 9, 10, 11, 12]) (.seq (.seq (.reg false cache_Cache_Dirty.r2 [5]) (.block 0 (.seq (.reg false cache_Cache_Dirty.r3 [15]) (.cond (.s 14) (.seq (.reg false cache_Cache_Dirty.r4 [16]) (.block 1 (.loop [0, 6, 7] [] (.seq (.seq (.reg false cache_Cache_Dirty.r5 [17, 18, 19]) (.cond (.s 20) .skip (.exit 1))) (.seq (.block 2 (.seq (.reg true cache_Cache_Dirty.r7 [23, 24, 25, 26, 27, 28, 29, 30, 31, 32, 33, 34, 35, 36]) (.cond (.s 37) (.seq (.reg false cache_Cache_Dirty.r8 []) .ret) .skip))) (.reg false cache_Cache_Dirty.r6 [21, 22])))))) (.seq (.reg false cache_Cache_Dirty.r9 [39]) (.cond (.s 38) (.seq (.reg true cache_Cache_Dirty.r10 [0, 6, 40, 41, 42, 43, 44, 45, 46, 47, 48, 49, 50, 51, 52, 53, 54]) .ret) (.seq (.reg false cache_Cache_Dirty.r11 [13, 56]) (.cond (.s 55) (.seq (.reg true cache_Cache_Dirty.r12 [0, 6, 57, 58, 59, 60, 61, 62, 63, 64, 65, 66, 67, 68, 69, 70, 71]) .ret) .skip)))))))) (.seq (.reg false cache_Cache_Dirty.r13 []) .ret))))
@[reducible] def cache_Cache_Dirty : MFun := { params := 2, nfree := 0, res := [.tmp 4], body := cache_Cache_Dirty.body }
@[reducible] def cache_Cache_Inode.r0 : List MOp := [⟨some 2, .mov (.c (.int .i64 0)), none⟩]
@[reducible] def cache_Cache_Inode.r1 : List MOp := [⟨some 5, .mov (.s 0), none⟩, ⟨some 6, .nilck (.s 5), none⟩, ⟨some 7, .fld tCache 0 tImage (.s 6), none⟩, ⟨some 8, .fld tImage 0 tInodes (.s 7), none⟩, ⟨some 9, .load false none tInodes (.s 8), none⟩, ⟨some 10, .mov (.c (.int .i64 0)), none⟩]
@[reducible] def cache_Cache_Inode.r2 : List MOp := [⟨some 11, .bin .lss (.s 10) (.c (.int .i64 8)), none⟩]
@[reducible] def cache_Cache_Inode.r3 : List MOp := [⟨some 12, .mov (.s 10), none⟩, ⟨some 13, .aidx 8 tInode (.s 9) (.s 10), none⟩, ⟨some 4, .alloc false tInode, none⟩, ⟨some 3, .mov (.s 12), none⟩, ⟨none, .store tInode [] (.s 4) (.s 13), none⟩]
@[reducible] def cache_Cache_Inode.r4 : List MOp := [⟨some 14, .fld tInode 0 tB (.s 4), none⟩, ⟨some 15, .load false none tB (.s 14), none⟩, ⟨some 16, .un .not (.s 15), none⟩, ⟨some 17, .mov (.s 16), none⟩, ⟨some 18, .mov (.s 0), some (17, true)⟩, ⟨some 19, .nilck (.s 18), some (17, true)⟩, ⟨some 20, .fld tCache 1 tImage (.s 19), some (17, true)⟩, ⟨some 21, .mov (.s 3), some (17, true)⟩, ⟨some 22, .call false [] 12 [(.s 20), (.s 21)], some (17, true)⟩, ⟨some 23, .bin .eql (.s 22) (.c (.int .i64 0)), some (17, true)⟩, ⟨some 24, .pick (.s 17) (.s 23) (.c (.bool false)), none⟩]
@[reducible] def cache_Cache_Inode.r5 : List MOp := [⟨some 25, .mov (.s 3), none⟩, ⟨some 2, .mov (.s 25), none⟩]
@[reducible] def cache_Cache_Inode.r6 : List MOp := [⟨some 26, .bin .add (.s 10) (.c (.int .i64 1)), none⟩, ⟨some 10, .mov (.s 26), none⟩]
@[reducible] def cache_Cache_Inode.r7 : List MOp := [⟨some 2, .mov (.c (.int .i64 (-1))), none⟩]
@[reducible] def cache_Cache_Inode.body : MC := (.seq (.reg false cache_Cache_Inode.r0 [2]) (.seq (.seq (.reg false cache_Cache_Inode.r1 [5, 6, 7, 8]) (.block 0 (.loop [0, 9, 10] [] (.seq (.reg false cache_Cache_Inode.r2 []) (.seq (.cond (.s 11) .skip (.exit 0)) (.seq (.block 1 (.seq (.reg false cache_Cache_Inode.r3 [12, 13]) (.seq (.reg false cache_Cache_Inode.r4 [4, 14, 15, 16, 17, 18, 19, 20, 21, 22, 23]) (.cond (.s 24) (.seq (.reg false cache_Cache_Inode.r5 [3, 25]) .ret) .skip)))) (.reg false cache_Cache_Inode.r6 [26]))))))) (.seq (.reg false cache_Cache_Inode.r7 []) .ret)))
@[reducible] def cache_Cache_Inode : MFun := { params := 1, nfree := 0, res := [.tmp 2], body := cache_Cache_Inode.body }
@[reducible] def cache_Cache_Slot.r0 : List MOp := [⟨some 4, .mov (.c (.int .i64 0)), none⟩]
@[reducible] def cache_Cache_Slot.r1 : List MOp := [⟨some 6, .mov (.s 1), none⟩, ⟨some 7, .bin .lss (.s 6) (.c (.int .i64 0)), none⟩, ⟨some 8, .mov (.s 7), none⟩, ⟨some 9, .mov (.s 1), some (8, false)⟩, ⟨some 10, .bin .geq (.s 9) (.c (.int .i64 3)), some (8, false)⟩, ⟨some 11, .pick (.s 8) (.c (.bool true)) (.s 10), none⟩]
@[reducible] def cache_Cache_Slot.r2 : List MOp := [⟨some 4, .mov (.c (.int .i64 (-1))), none⟩]
@[reducible] def cache_Cache_Slot.r3 : List MOp := [⟨some 12, .mov (.c (.int .i64 0)), none⟩]
@[reducible] def cache_Cache_Slot.r4 : List MOp := [⟨some 13, .bin .lss (.s 12) (.c (.int .i64 4)), none⟩]
@[reducible] def cache_Cache_Slot.r5 : List MOp := [⟨some 14, .mov (.s 12), none⟩, ⟨some 5, .mov (.s 14), none⟩]
@[reducible] def cache_Cache_Slot.r6 : List MOp := [⟨some 15, .mov (.s 0), none⟩, ⟨some 16, .mov (.s 1), none⟩, ⟨some 17, .mov (.s 5), none⟩, ⟨some 18, .nilck (.s 15), none⟩, ⟨some 19, .fld tCache 0 tImage (.s 18), none⟩, ⟨some 20, .fld tImage 1 tDirs (.s 19), none⟩, ⟨some 21, .idx 3 tRow (.s 20) (.s 16), none⟩, ⟨some 22, .idx 4 tEntry (.s 21) (.s 17), none⟩, ⟨some 23, .fld tEntry 0 tS (.s 22), none⟩, ⟨some 24, .load false none tS (.s 23), none⟩, ⟨some 25, .bin .eql (.s 24) (.c (.str ⟨#[]⟩)), none⟩, ⟨some 26, .mov (.s 25), none⟩, ⟨some 27, .mov (.s 0), some (26, true)⟩, ⟨some 28, .mov (.s 1), some (26, true)⟩, ⟨some 29, .mov (.s 5), some (26, true)⟩, ⟨some 30, .nilck (.s 27), some (26, true)⟩, ⟨some 31, .fld tCache 1 tImage (.s 30), some (26, true)⟩, ⟨some 32, .fld tImage 1 tDirs (.s 31), some (26, true)⟩, ⟨some 33, .idx 3 tRow (.s 32) (.s 28), some (26, true)⟩, ⟨some 34, .idx 4 tEntry (.s 33) (.s 29), some (26, true)⟩, ⟨some 35, .fld tEntry 0 tS (.s 34), some (26, true)⟩, ⟨some 36, .load false none tS (.s 35), some (26, true)⟩, ⟨some 37, .bin .eql (.s 36) (.c (.str ⟨#[]⟩)), some (26, true)⟩, ⟨some 38, .pick (.s 26) (.s 37) (.c (.bool false)), none⟩]
@[reducible] def cache_Cache_Slot.r7 : List MOp := [⟨some 39, .mov (.s 5), none⟩, ⟨some 4, .mov (.s 39), none⟩]
@[reducible] def cache_Cache_Slot.r8 : List MOp := [⟨some 40, .bin .add (.s 12) (.c (.int .i64 1)), none⟩, ⟨some 12, .mov (.s 40), none⟩]
@[reducible] def cache_Cache_Slot.r9 : List MOp := [⟨some 4, .mov (.c (.int .i64 (-1))), none⟩]
@[reducible] def cache_Cache_Slot.body : MC := (.seq (.reg false cache_Cache_Slot.r0 [4]) (.seq (.seq (.reg false cache_Cache_Slot.r1 [6, 7, 8, 9, 10]) (.cond (.s 11) (.seq (.reg false cache_Cache_Slot.r2 []) .ret) .skip)) (.seq (.seq (.reg false cache_Cache_Slot.r3 []) (.block 0 (.loop [0, 1, 12] [] (.seq (.reg false cache_Cache_Slot.r4 []) (.seq (.cond (.s 13) .skip (.exit 0)) (.seq (.block 1 (.seq (.reg false cache_Cache_Slot.r5 [14]) (.seq (.reg false cache_Cache_Slot.r6 [15, 16, 17, 18, 19, 20, 21, 22, 23, 24, 25, 26, 27, 28, 29, 30, 31, 32, 33, 34, 35, 36, 37]) (.cond (.s 38) (.seq (.reg false cache_Cache_Slot.r7 [5, 39]) .ret) .skip)))) (.reg false cache_Cache_Slot.r8 [40]))))))) (.seq (.reg false cache_Cache_Slot.r9 []) .ret))))
@[reducible] def cache_Cache_Slot : MFun := { params := 2, nfree := 0, res := [.tmp 4], body := cache_Cache_Slot.body }
@[reducible] def cache_Cache_Data.r0 : List MOp := [⟨some 2, .mov (.c (.int .i64 0)), none⟩]
@[reducible] def cache_Cache_Data.r1 : List MOp := [⟨some 4, .mov (.c (.int .i64 0)), none⟩]
@[reducible] def cache_Cache_Data.r2 : List MOp := [⟨some 5, .bin .lss (.s 4) (.c (.int .i64 9)), none⟩]
@[reducible] def cache_Cache_Data.r3 : List MOp := [⟨some 6, .mov (.s 4), none⟩, ⟨some 3, .mov (.s 6), none⟩]
@[reducible] def cache_Cache_Data.r4 : List MOp := [⟨some 7, .mov (.s 0), none⟩, ⟨some 8, .nilck (.s 7), none⟩, ⟨some 9, .fld tCache 0 tImage (.s 8), none⟩, ⟨some 10, .mov (.s 3), none⟩, ⟨some 11, .call false [] 17 [(.s 9), (.s 10)], none⟩, ⟨some 12, .un .not (.s 11), none⟩, ⟨some 13, .mov (.s 12), none⟩, ⟨some 14, .mov (.s 0), some (13, true)⟩, ⟨some 15, .nilck (.s 14), some (13, true)⟩, ⟨some 16, .fld tCache 1 tImage (.s 15), some (13, true)⟩, ⟨some 17, .mov (.s 3), some (13, true)⟩, ⟨some 18, .call false [] 17 [(.s 16), (.s 17)], some (13, true)⟩, ⟨some 19, .un .not (.s 18), some (13, true)⟩, ⟨some 20, .pick (.s 13) (.s 19) (.c (.bool false)), none⟩]
@[reducible] def cache_Cache_Data.r5 : List MOp := [⟨some 21, .mov (.s 3), none⟩, ⟨some 2, .mov (.s 21), none⟩]
@[reducible] def cache_Cache_Data.r6 : List MOp := [⟨some 22, .bin .add (.s 4) (.c (.int .i64 1)), none⟩, ⟨some 4, .mov (.s 22), none⟩]
@[reducible] def cache_Cache_Data.r7 : List MOp := [⟨some 2, .mov (.c (.int .i64 (-1))), none⟩]
@[reducible] def cache_Cache_Data.body : MC := (.seq (.reg false cache_Cache_Data.r0 [2]) (.seq (.seq (.reg false cache_Cache_Data.r1 []) (.block 0 (.loop [0, 4] [] (.seq (.reg false cache_Cache_Data.r2 []) (.seq (.cond (.s 5) .skip (.exit 0)) (.seq (.block 1 (.seq (.reg false cache_Cache_Data.r3 [6]) (.seq (.reg false cache_Cache_Data.r4 [7, 8, 9, 10, 11, 12, 13, 14, 15, 16, 17, 18, 19]) (.cond (.s 20) (.seq (.reg false cache_Cache_Data.r5 [3, 21]) .ret) .skip)))) (.reg false cache_Cache_Data.r6 [22]))))))) (.seq (.reg false cache_Cache_Data.r7 []) .ret)))
@[reducible] def cache_Cache_Data : MFun := { params := 1, nfree := 0, res := [.tmp 2], body := cache_Cache_Data.body }
@[reducible] def cache_Cache_Clean.r0 : List MOp := [⟨some 2, .mov (.c (.bool false)), none⟩]
@[reducible] def cache_Cache_Clean.r1 : List MOp := [⟨some 3, .mov (.s 0), none⟩, ⟨some 4, .nilck (.s 3), none⟩, ⟨some 5, .fld tCache 0 tImage (.s 4), none⟩, ⟨some 6, .load false none tImage (.s 5), none⟩, ⟨some 7, .mov (.s 0), none⟩, ⟨some 8, .nilck (.s 7), none⟩, ⟨some 9, .fld tCache 1 tImage (.s 8), none⟩, ⟨some 10, .load false none tImage (.s 9), none⟩, ⟨some 11, .eq false tImage (.s 6) (.s 10), none⟩, ⟨some 2, .mov (.s 11), none⟩]
@[reducible] def cache_Cache_Clean.body : MC := (.seq (.reg false cache_Cache_Clean.r0 [2]) (.seq (.reg true cache_Cache_Clean.r1 [0, 3, 4, 5, 6, 7, 8, 9, 10, 11]) .ret))
@[reducible] def cache_Cache_Clean : MFun := { params := 1, nfree := 0, res := [.tmp 2], body := cache_Cache_Clean.body }
@[reducible] def cache_Cache_Write.r0 : List MOp := [⟨some 4, .mov (.c (.bool false)), none⟩]
@[reducible] def cache_Cache_Write.r1 : List MOp := [⟨some 8, .mov (.s 0), none⟩, ⟨some 9, .nilck (.s 8), none⟩, ⟨some 10, .fld tCache 0 tImage (.s 9), none⟩, ⟨some 11, .mov (.s 0), none⟩, ⟨some 12, .nilck (.s 11), none⟩, ⟨some 13, .fld tCache 1 tImage (.s 12), none⟩, ⟨some 14, .mov (.s 1), none⟩, ⟨some 15, .call false [5] 9 [(.s 10), (.s 13), (.s 14)], none⟩, ⟨some 7, .mov (.s 15), none⟩, ⟨some 16, .ext (.s 7) 0, none⟩, ⟨some 17, .ext (.s 7) 1, none⟩, ⟨some 5, .alloc false tImage, none⟩, ⟨none, .store tImage [] (.s 5) (.s 16), none⟩, ⟨some 6, .mov (.s 17), none⟩]
@[reducible] def cache_Cache_Write.r2 : List MOp := [⟨some 18, .mov (.s 0), none⟩, ⟨some 19, .load false none tImage (.s 5), none⟩, ⟨some 20, .nilck (.s 18), none⟩, ⟨some 21, .fld tCache 1 tImage (.s 20), none⟩, ⟨none, .store tImage [] (.s 21) (.s 19), none⟩]
@[reducible] def cache_Cache_Write.r3 : List MOp := [⟨some 22, .mov (.s 6), none⟩, ⟨some 4, .mov (.s 22), none⟩]
@[reducible] def cache_Cache_Write.body : MC := (.seq (.reg false cache_Cache_Write.r0 [4]) (.seq (.reg true cache_Cache_Write.r1 [1, 7, 8, 9, 10, 11, 12, 13, 14, 15, 16, 17]) (.seq (.reg false cache_Cache_Write.r2 [0, 5, 18, 19, 20, 21]) (.seq (.reg false cache_Cache_Write.r3 [6, 22]) .ret))))
@[reducible] def cache_Cache_Write : MFun := { params := 2, nfree := 0, res := [.tmp 4], body := cache_Cache_Write.body }
@[reducible] def cache_Of.r0 : List MOp := [⟨some 1, .box false tImage (.s 0), none⟩, ⟨some 2, .mov (.c .nilp), none⟩]
@[reducible] def cache_Of.r1 : List MOp := [⟨some 3, .call false [] 21 [(.s 1)], none⟩, ⟨some 4, .bin .neq (.s 3) (.c (.int .i64 0)), none⟩]
@[reducible] def cache_Of.r2 : List MOp := [⟨some 2, .mov (.c .nilp), none⟩]
@[reducible] def cache_Of.r3 : List MOp := [⟨some 5, .load false none tImage (.s 1), none⟩, ⟨some 6, .load false none tImage (.s 1), none⟩, ⟨some 7, .build tCache [(0, (.s 5)), (1, (.s 6))], none⟩, ⟨some 8, .box true tCache (.s 7), none⟩, ⟨some 2, .mov (.s 8), none⟩]
@[reducible] def cache_Of.body : MC := (.seq (.reg false cache_Of.r0 [0, 2]) (.seq (.seq (.reg false cache_Of.r1 [3]) (.cond (.s 4) (.seq (.reg false cache_Of.r2 []) .ret) .skip)) (.seq (.reg false cache_Of.r3 [1, 5, 6, 7, 8]) .ret)))
@[reducible] def cache_Of : MFun := { params := 1, nfree := 0, res := [.tmp 2], body := cache_Of.body }
@[reducible] def cache_New.r0 : List MOp := [⟨some 0, .mov (.c .nilp), none⟩]
@[reducible] def cache_New.r1 : List MOp := [⟨some 1, .call false [] 34 [], none⟩, ⟨some 2, .call false [] 34 [], none⟩, ⟨some 3, .build tCache [(0, (.s 1)), (1, (.s 2))], none⟩, ⟨some 4, .box true tCache (.s 3), none⟩, ⟨some 0, .mov (.s 4), none⟩]
@[reducible] def cache_New.body : MC := (.seq (.reg false cache_New.r0 [0]) (.seq (.reg false cache_New.r1 [1, 2, 3, 4]) .ret))
@[reducible] def cache_New : MFun := { params := 0, nfree := 0, res := [.tmp 0], body := cache_New.body }
end Fn
def tblNL : List (Option MFun) := [none, some Fn.cache_Cache_Sync, none, some Fn.cache_Cache_Disk, some Fn.cache_Cache_Dirty, some Fn.cache_Cache_Inode, none, some Fn.cache_Cache_Slot, none, some Fn.cache_Cache_Data, none, some Fn.cache_Cache_Clean, some Fn.cache_Cache_Write, none, some Fn.cache_Of, none, none, none, none, none, none, none, none, none, none, none, none, none, none, none, none, some Fn.cache_New, none, none, none, none, none, none, none, none, none, none, none, none, none, none, none, none, none, none, none, none, none, none, none, none, none, none, none, none, none, none, none, none]
end Go.Mini

namespace Go.Mini
set_option linter.unusedSimpArgs false
set_option linter.unusedVariables false
theorem enterCmd_ext {T T' : Nat → Option MFun} (hT : ∀ i fn, T i = some fn → T' i = some fn) {cx : Cx} {prot : Bool} {hide : List Nat} {f : Nat} {args caps : List AV} {d : Option Nat} {todo : List Item} {s : St} :
    enterCmd T cx prot hide f args caps d todo s = .fail ∨ enterCmd T' cx prot hide f args caps d todo s = enterCmd T cx prot hide f args caps d todo s := by
  unfold enterCmd
  cases h : T f with
  | none => exact .inl rfl
  | some fn => rw [hT f fn h]; exact .inr rfl
theorem opCmd_ext {T T' : Nat → Option MFun} (hT : ∀ i fn, T i = some fn → T' i = some fn) {cx : Cx} {d : Option Nat} {o : MK} {k : List Item} {s : St} : opCmd T cx d o k s = .fail ∨ opCmd T' cx d o k s = opCmd T cx d o k s := by
  cases o <;> try exact .inr rfl
  · exact enterCmd_ext hT
  · simp only [opCmd]
    split
    · exact enterCmd_ext hT
    · exact .inl rfl
theorem next_ext {T T' : Nat → Option MFun} (hT : ∀ i fn, T i = some fn → T' i = some fn) {cx : Cx} {k : List Item} {s : St} : next T cx k s = .fail ∨ next T' cx k s = next T cx k s := by
  unfold next
  split <;> try exact .inr rfl
  split
  · exact .inr rfl
  · exact .inr rfl
  · exact opCmd_ext hT
theorem run_ext {T T' : Nat → Option MFun} (hT : ∀ i fn, T i = some fn → T' i = some fn) : ∀ {n : Nat} {cx : Cx} {k : List Item} {s r : St}, run T n cx k s = some r → run T' n cx k s = some r := by
  intro n
  induction n with
  | zero => intro cx k s r h; simp [run] at h
  | succ n ih =>
    intro cx k s r h
    rw [run] at h ⊢
    rcases next_ext hT (cx := cx) (k := k) (s := s) with hf | he
    · rw [hf] at h; exact absurd h (by simp)
    · rw [he]
      split at h
      · exact h
      · exact absurd h (by simp)
      · exact ih h
      · rename_i cx' hide fn e d k' s1 hn
        cases h1 : run T n cx' [.code fn.body] e with
        | none => rw [h1] at h; exact absurd h (by simp)
        | some s' =>
          rw [h1] at h
          rw [ih h1]
          dsimp only at h ⊢
          cases h2 : back cx cx' hide fn d s1 s' with
          | none => rw [h2] at h; exact absurd h (by simp)
          | some s2 => rw [h2] at h; exact ih h
def tblBL : List (Option MFun) := tblL ++ List.replicate 9 none ++ tblNL
def tblB (f : Nat) : Option MFun := tblBL.getD f none
theorem tbl_B (i : Nat) (fn : MFun) (h : tbl i = some fn) : tblB i = some fn := by
  unfold tbl at h
  have hl : i < tblL.length := by
    rcases Nat.lt_or_ge i tblL.length with h' | h'
    · exact h'
    · rw [List.getD_eq_getElem?_getD, List.getElem?_eq_none h'] at h; simp at h
  unfold tblB tblBL
  rw [List.getD_eq_getElem?_getD] at h ⊢
  rw [List.append_assoc, List.getElem?_append_left hl]
  exact h
theorem up {cx : Cx} {fn : MFun} {e : St} {R : AV → HP → Prop} (h : Ok tbl cx fn e R) : Ok tblB cx fn e R := by
  obtain ⟨n, s', v, hr, hv, hR⟩ := h
  exact ⟨n, s', v, run_ext tbl_B hr, hv, hR⟩
end Go.Mini

namespace Go.Mini
set_option linter.unusedSimpArgs false
set_option linter.unusedVariables false
set_option maxHeartbeats 4000000
set_option maxRecDepth 100000
def FA (m m' : Img) (n : Nat) : Prop := (m.ino n).live = true → (m'.ino n).live = true → ¬(m.ino n).stamp = (m'.ino n).stamp → refs m' n = 0
def FB (m m' : Img) (n k : Nat) : Prop := ¬k = n → (m.ino n).live = true → (m'.ino k).live = true → ¬(m'.ino k).stamp = (m.ino n).stamp
def FC (m m' : Img) (n p k q : Nat) : Prop := (m'.ino k).live = true → (m'.ino k).prt q = (m.ino n).prt p → k = n ∧ q = p ∧ (m'.ino k).stamp = (m.ino n).stamp
def FCp (m m' : Img) (n p : Nat) : Prop := (m.ino n).live = true → 0 ≤ (m.ino n).prt p → ∀ k, k < 8 → ∀ q, q < 2 → FC m m' n p k q
def FI (m m' : Img) (n : Nat) : Prop := FA m m' n ∧ (∀ k, k < 8 → FB m m' n k) ∧ ∀ p, p < 2 → FCp m m' n p
def FD (m m' : Img) (x : Nat) : Prop := held m' x = true → (m.dat x).of = (m'.dat x).of
def FE (m m' : Img) (d s : Nat) : Prop := ¬(m.ent d s).name = ⟨#[]⟩ → ¬(m'.ent d s).name = ⟨#[]⟩ → m.ent d s = m'.ent d s
def FG (m m' : Img) (d s t : Nat) : Prop := ¬t = s → ¬(m.ent d s).name = ⟨#[]⟩ → ¬(m'.ent d t).name = (m.ent d s).name
def FSx9 (m m' : Img) (d s : Nat) : Prop := FE m m' d s ∧ ∀ t, t < 4 → FG m m' d s t
def Fits (m m' : Img) : Prop := (∀ n, n < 8 → FI m m' n) ∧ (∀ x, x < 9 → FD m m' x) ∧ ∀ d, d < 3 → ∀ s, s < 4 → FSx9 m m' d s
end Go.Mini

namespace Go.Mini
set_option linter.unusedSimpArgs false
set_option linter.unusedVariables false
set_option maxHeartbeats 4000000
set_option maxRecDepth 100000
theorem inoFault_of {m : Img} {n : Nat} (h1 : (m.ino n).live = true) (h2 : 1 ≤ (m.ino n).stamp) (h3 : (refs m n : Int) ≤ (m.ino n).links) (h4 : ∀ p, p < 2 → partFault m (m.ino n) p = 0) : inoFault m n = 0 := by
  simp only [inoFault, h1, Bool.true_eq_false, if_false]
  rw [if_neg (by omega)]
  exact firstI_zero.2 h4
theorem partFault_of {m : Img} {i : Ino} {p : Nat} (h : i.prt p = -1 ∨ (0 ≤ i.prt p ∧ i.prt p < 9 ∧ (m.dat (i.prt p).toNat).of = i.stamp)) : partFault m i p = 0 := by
  rcases h with h | ⟨h0, h9, he⟩
  · simp [partFault, h]
  · simp only [partFault]
    rw [if_neg (by omega), if_neg (fun h => h.2 he)]
theorem dead_none {m : Img} (hc : check m = 0) {n : Nat} (hn : n < 8) (hl : (m.ino n).live = false) : m.ino n = Ino.none := by
  have h := (check_parts hc).2.1 n hn
  simp only [inoFault, hl, if_true] at h
  split at h
  · assumption
  · exact absurd h (by decide)
theorem inoFault_dead {m : Img} {n : Nat} (h : m.ino n = Ino.none) : inoFault m n = 0 := by simp [inoFault, h, show Ino.none.live = false from rfl]
theorem refs_pos {m : Img} {d s : Nat} (hd : d < 3) (hs : s < 4) {i : Int} (h : leads m d s i = true) : 0 < refs m i := by
  have g2 : refsRow m i d 4 ≤ refs m i := sumN_ge (f := fun d => refsRow m i d 4) hd
  have g3 : b2n (leads m d s i) ≤ refsRow m i d 4 := sumN_ge (f := fun t => b2n (leads m d t i)) hs
  rw [h] at g3
  simp only [b2n, if_true] at g3
  omega
theorem leads_at {m : Img} {d s : Nat} (hn : ¬(m.ent d s).name = ⟨#[]⟩) (h0 : 0 ≤ (m.ent d s).ino) : leads m d s ((m.ent d s).ino.toNat : Nat) = true := by
  have : ((m.ent d s).ino.toNat : Int) = (m.ent d s).ino := by omega
  simp [leads, hn, this]
theorem inodeAs_live_cases {m m' : Img} {n : Nat} (h : (inodeAs m m' n).live = true) :
    ((m.ino n).live = true ∧ (inodeAs m m' n).stamp = (m.ino n).stamp ∧ ∀ p, p < 2 → (inodeAs m m' n).prt p = part m m' n p) ∨
    ((m.ino n).live = false ∧ (m'.ino n).live = true ∧ 0 < both m m' n ∧ (inodeAs m m' n).stamp = (m'.ino n).stamp ∧ ∀ p, (inodeAs m m' n).prt p = (m'.ino n).prt p) := by
  cases hl : (m.ino n).live with
  | true =>
    left
    refine ⟨rfl, by simp only [inodeAs, if_pos hl], fun p hp => ?_⟩
    simp only [inodeAs, if_pos hl, Ino.prt, hp, dite_true]
    obtain rfl | rfl : p = 0 ∨ p = 1 := by omega
    all_goals rfl
  | false =>
    right
    have hl' : ¬(m.ino n).live = true := by rw [hl]; simp
    by_cases hd : (m'.ino n).live = true ∧ 0 < both m m' n
    · have e : inodeAs m m' n = { m'.ino n with links := both m m' n } := by simp only [inodeAs, if_neg hl', if_pos hd]
      rw [e]; exact ⟨rfl, hd.1, hd.2, rfl, fun p => rfl⟩
    · have e : inodeAs m m' n = Ino.none := by simp only [inodeAs, if_neg hl', if_neg hd]
      rw [e] at h; simp [Ino.none] at h
theorem part_cases (m m' : Img) (n p : Nat) : part m m' n p = -1 ∨ (part m m' n p = (m.ino n).prt p ∧ 0 ≤ (m.ino n).prt p ∧ (m.ino n).prt p < 9 ∧ (m'.dat ((m.ino n).prt p).toNat).of = (m.ino n).stamp) ∨
    (part m m' n p = (m'.ino n).prt p ∧ (m'.ino n).live = true ∧ (m'.ino n).stamp = (m.ino n).stamp) := by
  by_cases hx : (m.ino n).prt p < 0 ∨ 9 ≤ (m.ino n).prt p
  · left; simp only [part, if_pos hx]
  by_cases hd : (m'.dat ((m.ino n).prt p).toNat).of = (m.ino n).stamp
  · right; left
    exact ⟨by simp only [part, if_neg hx, if_pos hd], by omega, by omega, hd⟩
  by_cases ho : (m'.ino n).live = true ∧ (m'.ino n).stamp = (m.ino n).stamp
  · right; right
    exact ⟨by simp only [part, if_neg hx, if_neg hd, if_pos ho], ho⟩
  · left; simp only [part, if_neg hx, if_neg hd, if_neg ho]
theorem wrInodes_ino' (m m' : Img) (n : Nat) (hn : n ≤ 4) (i : Nat) : (wrInodes m m' n 4).ino i = if n ≤ i ∧ i < n + 4 then inodeAs m m' i else m'.ino i := by
  have key : ∀ k, k ≤ 4 → (wrInodes m m' n k).ino i = if n ≤ i ∧ i < n + k then inodeAs m m' i else m'.ino i := by
    intro k
    induction k with
    | zero => intro _; rw [if_neg (by omega)]; rfl
    | succ k ih =>
      intro hk
      rw [wrInodes, ino_setIno, ih (by omega)]
      by_cases e : n + k = i
      · subst e; rw [if_pos ⟨rfl, by omega⟩, if_pos (by omega)]
      · rw [if_neg (by omega)]
        by_cases h : n ≤ i ∧ i < n + k
        · rw [if_pos h, if_pos (by omega)]
        · rw [if_neg h, if_neg (by omega)]
  exact key 4 (Nat.le_refl _)
theorem wrInodes_dat (m m' : Img) (n x : Nat) : ∀ k, (wrInodes m m' n k).dat x = m'.dat x
  | 0 => rfl
  | k + 1 => by rw [wrInodes, dat_setIno, wrInodes_dat m m' n x k]
theorem mends_data {m m' : Img} (hc : check m' = 0) (hf : Fits m m') {x : Nat} (hx : x < 9) : check (m'.setDat x (m.dat x)) = 0 := by
  obtain ⟨h1, h2, h3⟩ := check_parts hc
  have hR : ∀ i, refs (m'.setDat x (m.dat x)) i = refs m' i := fun i => refs_congr (fun d s => ent_setDat ..) i
  refine check_of (fun d hd s hs => ?_) (fun n hn => ?_) ?_
  · have e' : (m'.setDat x (m.dat x)).ent d s = m'.ent d s := ent_setDat ..
    rcases entry_parts (h1 d hd s hs) with e0 | ⟨a1, a2, a3, a4, a5, a6, a7⟩
    · rw [e0] at e'; simp [entryFault, e', show Ent.zero.name = ⟨#[]⟩ from rfl]
    · exact entry_of (by rw [e']; exact a1) (by rw [e']; exact a2) (by refine Eq.trans (anyN_congr fun k _ => ?_) a3; rw [decide_eq_decide]; simp only [ent_setDat]) (by rw [e']; exact a4) (by rw [e']; exact a5) (by rw [e', ino_setDat]; exact a6) (by rw [e', ino_setDat]; exact a7)
  · cases hl : (m'.ino n).live with
    | false => exact inoFault_dead (by rw [ino_setDat]; exact dead_none hc hn hl)
    | true =>
      obtain ⟨p1, p2, p3⟩ := ino_parts hc hn hl
      refine inoFault_of (by rw [ino_setDat]; exact hl) (by rw [ino_setDat]; exact p1) (by rw [ino_setDat, hR]; exact p2) fun p hp => ?_
      rw [ino_setDat]
      rcases part_dat (p3 p hp) with hm1 | ⟨h0, h9, ho⟩
      · exact partFault_of (.inl hm1)
      · refine partFault_of (.inr ⟨h0, h9, ?_⟩)
        rw [dat_setDat]
        split
        · rename_i hxe
          have hheld : held m' (x : Int) = true := by
            refine anyN_at hn ?_
            have : (m'.ino n).prt p = (x : Int) := by omega
            obtain rfl | rfl : p = 0 ∨ p = 1 := by omega
            all_goals simp [hl, this]
          have := hf.2.1 x hx hheld
          rw [this, hxe.1]; exact ho
        · exact ho
  · rw [← h3]; exact twice_ino fun n => ino_setDat ..
theorem mends_inodes {m m' : Img} (hc : check m' = 0) (he : exact m = true) (hf : Fits m m') {n0 : Nat} (hn0 : n0 ≤ 4) : check (wrInodes m m' n0 4) = 0 := by
  obtain ⟨hcm, hem⟩ := exact_parts he
  obtain ⟨h1, h2, h3⟩ := check_parts hc
  obtain ⟨g1, g2, g3⟩ := check_parts hcm
  have hE : ∀ d s, (wrInodes m m' n0 4).ent d s = m'.ent d s := fun d s => wrInodes_ent m m' n0 d s 4
  have hI := wrInodes_ino' m m' n0 hn0
  have hD := fun x => wrInodes_dat m m' n0 x 4
  have hR : ∀ i, refs (wrInodes m m' n0 4) i = refs m' i := fun i => refs_congr hE i
  generalize wrInodes m m' n0 4 = X at *
  -- what each live inode is
  have hL : ∀ n, n < 8 → (X.ino n).live = true → ((m.ino n).live = true ∧ (X.ino n).stamp = (m.ino n).stamp ∧ (refs m' n : Int) ≤ (X.ino n).links ∧ ∀ p, p < 2 → (X.ino n).prt p = part m m' n p) ∨
      ((m'.ino n).live = true ∧ (X.ino n).stamp = (m'.ino n).stamp ∧ (refs m' n : Int) ≤ (X.ino n).links ∧ ∀ p, (X.ino n).prt p = (m'.ino n).prt p) := by
    intro n hn hl
    rw [hI] at hl ⊢
    split at hl
    · rename_i hr
      rw [if_pos hr]
      have hlk : (refs m' n : Int) ≤ (inodeAs m m' n).links := by
        rw [inodeAs_links m m' n hl, both_comm]; exact Int.ofNat_le.2 (refs_le_both m' m n)
      rcases inodeAs_live_cases hl with ⟨a1, a2, a3⟩ | ⟨_, a2, _, a4, a5⟩
      · exact .inl ⟨a1, a2, hlk, a3⟩
      · exact .inr ⟨a2, a4, hlk, a5⟩
    · rename_i hr
      rw [if_neg hr]
      exact .inr ⟨hl, rfl, (ino_parts hc hn hl).2.1, fun _ => rfl⟩
  refine check_of (fun d hd s hs => ?_) (fun n hn => ?_) ?_
  · have e' := hE d s
    rcases entry_parts (h1 d hd s hs) with e0 | ⟨a1, a2, a3, a4, a5, a6, a7⟩
    · rw [e0] at e'; simp [entryFault, e', show Ent.zero.name = ⟨#[]⟩ from rfl]
    · have hj : (m'.ent d s).ino.toNat < 8 := by omega
      have hpos := refs_pos hd hs (leads_at a1 a4)
      have key : (X.ino (m'.ent d s).ino.toNat).live = true ∧ (X.ino (m'.ent d s).ino.toNat).stamp = (m'.ent d s).stamp := by
        rw [hI]
        split
        · cases hl : (m.ino (m'.ent d s).ino.toNat).live with
          | true =>
            refine ⟨by simp [inodeAs, hl], ?_⟩
            simp only [inodeAs, if_pos hl]
            by_cases hst : (m.ino (m'.ent d s).ino.toNat).stamp = (m'.ino (m'.ent d s).ino.toNat).stamp
            · rw [hst]; exact a7
            · have := (hf.1 _ hj).1 hl a6 hst; omega
          | false =>
            have hl' : ¬(m.ino (m'.ent d s).ino.toNat).live = true := by rw [hl]; simp
            have hbp : 0 < both m m' ((m'.ent d s).ino.toNat : Nat) := by
              have := refs_le_both m' m ((m'.ent d s).ino.toNat : Nat)
              rw [both_comm] at this; omega
            simp only [inodeAs, if_neg hl', if_pos (And.intro a6 hbp)]
            exact ⟨a6, a7⟩
        · exact ⟨a6, a7⟩
      exact entry_of (by rw [e']; exact a1) (by rw [e']; exact a2) (by simpa only [hE] using a3) (by rw [e']; exact a4) (by rw [e']; exact a5) (by rw [e']; exact key.1) (by rw [e']; exact key.2)
  · cases hl : (X.ino n).live with
    | false =>
      have : X.ino n = Ino.none := by
        rw [hI] at hl ⊢
        split at hl
        · rename_i hr; rw [if_pos hr]; exact (inodeAs_dead m m' n hl).1
        · rename_i hr; rw [if_neg hr]; exact dead_none hc hn hl
      exact inoFault_dead this
    | true =>
      rcases hL n hn hl with ⟨a1, a2, a3, a4⟩ | ⟨a1, a2, a3, a4⟩
      · obtain ⟨p1, _, p3⟩ := ino_parts hcm hn a1
        refine inoFault_of hl (by rw [a2]; exact p1) (by rw [hR]; exact a3) fun p hp => partFault_of ?_
        rw [a4 p hp, a2]
        rcases part_cases m m' n p with c | ⟨c1, c2, c3, c4⟩ | ⟨c1, c2, c3⟩
        · exact .inl c
        · rw [c1]; right; exact ⟨c2, c3, by rw [hD]; exact c4⟩
        · rw [c1]
          obtain ⟨_, _, q3⟩ := ino_parts hc hn c2
          rcases part_dat (q3 p hp) with r | ⟨r1, r2, r3⟩
          · exact .inl r
          · right; exact ⟨r1, r2, by rw [hD, r3, c3]⟩
      · obtain ⟨p1, _, p3⟩ := ino_parts hc hn a1
        refine inoFault_of hl (by rw [a2]; exact p1) (by rw [hR]; exact a3) fun p hp => partFault_of ?_
        rw [a4 p, a2]
        rcases part_dat (p3 p hp) with r | ⟨r1, r2, r3⟩
        · exact .inl r
        · right; exact ⟨r1, r2, by rw [hD]; exact r3⟩
  · -- none twice
    rw [← twiceR_eq]
    unfold twiceR
    rw [anyN_false]
    intro n hn
    rw [anyN_false]
    intro k hk
    rcases hb : pairBad X n k with _ | _
    · rfl
    · exfalso
      rw [pairBad_iff] at hb
      obtain ⟨b1, b2, b3⟩ := hb
      have badm : ∀ {p q}, p < 2 → q < 2 → (n ≠ k ∨ p ≠ q) → (m.ino n).live = true → (m.ino k).live = true → 0 ≤ (m.ino n).prt p → (m.ino n).prt p = (m.ino k).prt q → False := by
        intro p q hp hq hne hl hl' h0 h
        have := twice_at hn hk (pairBad_iff.2 ⟨hl, hl', .inr ⟨p, q, hp, hq, hne, h0, h⟩⟩)
        rw [g3] at this; exact absurd this (by simp)
      have badd : ∀ {p q}, p < 2 → q < 2 → (n ≠ k ∨ p ≠ q) → (m'.ino n).live = true → (m'.ino k).live = true → 0 ≤ (m'.ino n).prt p → (m'.ino n).prt p = (m'.ino k).prt q → False := by
        intro p q hp hq hne hl hl' h0 h
        have := twice_at hn hk (pairBad_iff.2 ⟨hl, hl', .inr ⟨p, q, hp, hq, hne, h0, h⟩⟩)
        rw [h3] at this; exact absurd this (by simp)
      rcases b3 with ⟨hne, hst⟩ | ⟨p, q, hp, hq, hne, h0, hpq⟩
      · rcases hL n hn b1 with ⟨a1, a2, _, _⟩ | ⟨a1, a2, _, _⟩ <;> rcases hL k hk b2 with ⟨c1, c2, _, _⟩ | ⟨c1, c2, _, _⟩
        · have := twice_at hn hk (pairBad_iff.2 ⟨a1, c1, .inl ⟨hne, by rw [← a2, ← c2]; exact hst⟩⟩)
          rw [g3] at this; exact absurd this (by simp)
        · exact (hf.1 n hn).2.1 k hk (fun h => hne h.symm) a1 c1 (by rw [← a2, ← c2]; exact hst.symm)
        · exact (hf.1 k hk).2.1 n hn hne c1 a1 (by rw [← a2, ← c2]; exact hst)
        · have := twice_at hn hk (pairBad_iff.2 ⟨a1, c1, .inl ⟨hne, by rw [← a2, ← c2]; exact hst⟩⟩)
          rw [h3] at this; exact absurd this (by simp)
      · -- each part is from what is to be, or from the disk
        have src : ∀ i a, i < 8 → a < 2 → (X.ino i).live = true → 0 ≤ (X.ino i).prt a → ((m.ino i).live = true ∧ (X.ino i).prt a = (m.ino i).prt a) ∨ ((m'.ino i).live = true ∧ (X.ino i).prt a = (m'.ino i).prt a) := by
          intro i a hi ha hl h0
          rcases hL i hi hl with ⟨a1, _, _, a4⟩ | ⟨a1, _, _, a4⟩
          · rw [a4 a ha] at h0 ⊢
            rcases part_cases m m' i a with c | ⟨c1, _, _, _⟩ | ⟨c1, c2, _⟩
            · omega
            · exact .inl ⟨a1, c1⟩
            · exact .inr ⟨c2, c1⟩
          · exact .inr ⟨a1, a4 a⟩
        rcases src n p hn hp b1 h0 with ⟨s1, s2⟩ | ⟨s1, s2⟩ <;> rcases src k q hk hq b2 (by omega) with ⟨t1, t2⟩ | ⟨t1, t2⟩
        · exact badm hp hq hne s1 t1 (by omega) (by omega)
        · obtain ⟨u1, u2, _⟩ := (hf.1 n hn).2.2 p hp s1 (by omega) k hk q hq t1 (by omega)
          omega
        · obtain ⟨u1, u2, _⟩ := (hf.1 k hk).2.2 q hq t1 (by omega) n hn p hp s1 (by omega)
          omega
        · exact badd hp hq hne s1 t1 (by omega) (by omega)
theorem mends_dir {m m' : Img} (hc : check m' = 0) (he : exact m = true) (hf : Fits m m') {d0 : Nat} (hd0 : d0 < 3) : check (wrDir m m' d0 4) = 0 := by
  obtain ⟨hcm, hem⟩ := exact_parts he
  obtain ⟨h1, h2, h3⟩ := check_parts hc
  obtain ⟨g1, g2, g3⟩ := check_parts hcm
  obtain ⟨i1, i2, i3, i4, i5, i6⟩ := wrDir_ok m m' hd0 4 (Nat.le_refl _)
  generalize wrDir m m' d0 4 = X at *
  refine check_of (fun d hd s hs => ?_) (fun n hn => ?_) ?_
  · -- each slot is as on the disk, or none, or as it is to be
    have slot : ∀ t, t < 4 → X.ent d t = m'.ent d t ∨ X.ent d t = Ent.zero ∨ (X.ent d t = m.ent d t ∧ 0 ≤ (m.ent d t).ino ∧ (m.ent d t).ino < 8 ∧ (m'.ino (m.ent d t).ino.toNat).live = true ∧ (m'.ino (m.ent d t).ino.toNat).stamp = (m.ent d t).stamp) := by
      intro t ht
      by_cases e : d = d0
      · subst e; exact i4 t ht
      · exact .inl (i3 d t hd ht (.inl e))
    have uniq : ∀ k, k < s → ¬(X.ent d s).name = ⟨#[]⟩ → ¬(X.ent d k).name = (X.ent d s).name := by
      intro k hk hne heq
      have hk4 : k < 4 := by omega
      rcases slot s hs with a | a | ⟨a, _⟩ <;> rcases slot k hk4 with b | b | ⟨b, _⟩ <;> rw [a] at hne heq <;> rw [b] at heq
      · rcases entry_parts (h1 d hd s hs) with e0 | ⟨_, _, a3, _⟩
        · rw [e0] at hne; exact hne rfl
        · have := anyN_false.1 a3 k hk; simp [heq] at this
      · exact hne heq.symm
      · exact (hf.2.2 d hd k hk4).2 s hs (by omega) (by rw [heq]; exact hne) heq.symm
      · exact absurd rfl hne
      · exact absurd rfl hne
      · exact absurd rfl hne
      · exact (hf.2.2 d hd s hs).2 k hk4 (by omega) hne heq
      · exact hne heq.symm
      · rcases entry_parts (g1 d hd s hs) with e0 | ⟨_, _, a3, _⟩
        · rw [e0] at hne; exact hne rfl
        · have := anyN_false.1 a3 k hk; simp [heq] at this
    have any : ¬(X.ent d s).name = ⟨#[]⟩ → anyN s (fun k => decide ((X.ent d k).name = (X.ent d s).name)) = false := fun hne => anyN_false.2 fun k hk => by simpa using uniq k hk hne
    rcases slot s hs with a | a | ⟨a, b1, b2, b3, b4⟩
    · rcases entry_parts (h1 d hd s hs) with e0 | ⟨a1, a2, a3, a4, a5, a6, a7⟩
      · rw [e0] at a; simp [entryFault, a, show Ent.zero.name = ⟨#[]⟩ from rfl]
      · exact entry_of (by rw [a]; exact a1) (by rw [a]; exact a2) (any (by rw [a]; exact a1)) (by rw [a]; exact a4) (by rw [a]; exact a5) (by rw [a, i1]; exact a6) (by rw [a, i1]; exact a7)
    · simp [entryFault, a, show Ent.zero.name = ⟨#[]⟩ from rfl]
    · rcases entry_parts (g1 d hd s hs) with e0 | ⟨a1, a2, a3, a4, a5, a6, a7⟩
      · rw [e0] at a; simp [entryFault, a, show Ent.zero.name = ⟨#[]⟩ from rfl]
      · exact entry_of (by rw [a]; exact a1) (by rw [a]; exact a2) (any (by rw [a]; exact a1)) (by rw [a]; exact a4) (by rw [a]; exact a5) (by rw [a, i1]; exact b3) (by rw [a, i1]; exact b4)
  · cases hl : (m'.ino n).live with
    | false => exact inoFault_dead (by rw [i1]; exact dead_none hc hn hl)
    | true =>
      obtain ⟨p1, p2, p3⟩ := ino_parts hc hn hl
      refine inoFault_of (by rw [i1]; exact hl) (by rw [i1]; exact p1) ?_ fun p hp => ?_
      · rw [i1]
        rcases i6 n with h | ⟨_, h⟩
        · omega
        · exact h
      · rw [i1]
        rcases part_dat (p3 p hp) with r | ⟨r1, r2, r3⟩
        · exact partFault_of (.inl r)
        · exact partFault_of (.inr ⟨r1, r2, by rw [i2]; exact r3⟩)
  · rw [← h3]; exact twice_ino i1
theorem write_mends {m m' : Img} (hc : check m' = 0) (he : exact m = true) (hf : Fits m m') (b : Int) : check (writeAs m m' b).1 = 0 := by
  obtain ⟨n, hn, e⟩ | ⟨n, hn, e⟩ | ⟨n, hn, e⟩ | e := blockOf_cases b
  · rw [writeAs_i e]; exact mends_inodes hc he hf hn
  · rw [writeAs_d e]; exact mends_dir hc he hf hn
  · rw [writeAs_a e]; exact mends_data hc hf hn
  · rw [writeAs_n e]; exact hc
end Go.Mini

namespace Go.Mini
set_option linter.unusedSimpArgs false
set_option linter.unusedVariables false
set_option maxHeartbeats 4000000
set_option maxRecDepth 100000
@[go_sem] theorem st_id : decide (sInodes = ⟨#[100, 105, 114]⟩) = false := by decide
@[go_sem] theorem st_ia : decide (sInodes = ⟨#[100, 97, 116, 97]⟩) = false := by decide
@[go_sem] theorem st_da : decide (sDir = ⟨#[100, 97, 116, 97]⟩) = false := by decide
theorem inodeAs_self {m : Img} (he : exact m = true) {n : Nat} (hn : n < 8) : inodeAs m m n = m.ino n := by
  obtain ⟨hc, hx⟩ := exact_parts he
  cases hl : (m.ino n).live with
  | true =>
    obtain ⟨h1, h2⟩ := hx n hn hl
    obtain ⟨_, _, p3⟩ := ino_parts hc hn hl
    have hp : ∀ p, p < 2 → part m m n p = (m.ino n).prt p := by
      intro p hp
      rcases part_cases m m n p with c | ⟨c, _⟩ | ⟨c, _⟩
      · rcases part_dat (p3 p hp) with r | ⟨r1, r2, r3⟩
        · rw [c, r]
        · have : part m m n p = (m.ino n).prt p := by
            simp only [part]; rw [if_neg (by omega), if_pos r3]
          exact this
      · exact c
      · exact c
    refine Ino.ext_of (by simp only [inodeAs, if_pos hl]) (by simp only [inodeAs, if_pos hl]) (by simp only [inodeAs, if_pos hl]; rw [both_self, h2]) fun p hp' => ?_
    rw [← hp p hp']
    simp only [inodeAs, if_pos hl, Ino.prt, hp', dite_true]
    obtain rfl | rfl : p = 0 ∨ p = 1 := by omega
    all_goals rfl
  | false =>
    have hl' : ¬(m.ino n).live = true := by rw [hl]; simp
    have hd : ¬((m.ino n).live = true ∧ 0 < both m m n) := fun h => hl' h.1
    rw [dead_none hc hn hl]
    simp only [inodeAs, if_neg hl', if_neg hd]
theorem setEnt_self (m : Img) {d s : Nat} {y : Ent} (h : y = m.ent d s) : m.setEnt d s y = m := by
  subst h
  refine Img.ext_of (fun n _ => ino_setEnt ..) (fun d' s' _ _ => ?_) (fun x _ => dat_setEnt ..)
  rw [ent_setEnt]; split
  · rename_i h; rw [h.1.1, h.1.2]
  · rfl
theorem wrDir_self (m : Img) (d : Nat) : ∀ k, wrDir m m d k = m
  | 0 => rfl
  | k + 1 => by
    rw [wrDir, wrDir_self m d k]
    exact setEnt_self _ (by simp [entryAs])
theorem self_write {m : Img} (he : exact m = true) (b : Int) : (writeAs m m b).1 = m := by
  obtain ⟨n, hn, e⟩ | ⟨n, hn, e⟩ | ⟨n, hn, e⟩ | e := blockOf_cases b
  · rw [writeAs_i e]
    refine Img.ext_of (fun i hi => ?_) (fun d s _ _ => wrInodes_ent ..) (fun x _ => wrInodes_dat ..)
    show (wrInodes m m n 4).ino i = _
    rw [wrInodes_ino' _ _ n hn]
    split
    · exact inodeAs_self he hi
    · rfl
  · rw [writeAs_d e]; exact wrDir_self m n 4
  · rw [writeAs_a e]; exact setDat_self _ rfl
  · rw [writeAs_n e]
end Go.Mini

namespace Go.Mini
set_option linter.unusedSimpArgs false
set_option linter.unusedVariables false
set_option maxHeartbeats 4000000
set_option maxRecDepth 100000
def encC (a b : Img) : AV := .cons a.enc (.cons b.enc .unit)
theorem fits_cache' (a b : Img) : tCache.fits (encC a b) = true := by
  show (Ty.cons tImage (.cons tImage .unit)).fits (AV.cons _ (.cons _ .unit)) = true
  simp only [fits_cons, fits_unit, fits_img', and_self]
@[go_sem] theorem fits_cache (a b : Img) : (tCache.fits (encC a b) = true) = True := eq_true (fits_cache' a b)
@[go_sem] theorem at_cache0 (a b : Img) (p : List Nat) : (encC a b).at (0 :: p) = a.enc.at p := rfl
@[go_sem] theorem at_cache1 (a b : Img) (p : List Nat) : (encC a b).at (1 :: p) = b.enc.at p := rfl
theorem put_cache0 (a b x : Img) : (encC a b).put [0] x.enc = some (encC x b) := by
  show (AV.put a.enc [] x.enc).map (fun y => AV.cons y (.cons b.enc .unit)) = _
  rw [put_nil]; rfl
theorem put_cache1 (a b x : Img) : (encC a b).put [1] x.enc = some (encC a x) := by
  show ((AV.put b.enc [] x.enc).map (fun y => AV.cons y .unit)).map (fun y => AV.cons a.enc y) = _
  rw [put_nil]; rfl
@[go_sem] theorem field_cache0 : tCache.field 0 = some tImage := rfl
@[go_sem] theorem field_cache1 : tCache.field 1 = some tImage := rfl
theorem zero_cache : tCache.zero = encC Img.zero Img.zero := by
  show AV.cons tImage.zero (.cons tImage.zero .unit) = _
  rw [zero_img]; rfl
@[go_sem] theorem fill_cache (a b : Img) : fill tCache tCache.zero [(0, a.enc), (1, b.enc)] = some (encC a b) := by
  rw [zero_cache]
  simp only [fill]
  show (if tImage.fits a.enc = true then _ else _) = _
  rw [if_pos (fits_img' a), put_cache0]
  show (if tImage.fits b.enc = true then _ else _) = _
  rw [if_pos (fits_img' b), put_cache1]
@[go_sem] theorem fg_cache (a b : Img) (i : Id) : fg (encC a b) i = encC a b := rfl
@[go_sem] theorem leads_cache (a b : Img) (i : Id) : (encC a b).leads i = false := rfl
@[go_sem] theorem isAgg_cache (a b : Img) : (encC a b).isAgg = true := rfl
def HP.cs (h : HP) (n : Nat) (a b : Img) : HP := h.set (.obj n) ⟨tCache, encC a b⟩
def HP.mk1 (h : HP) (a b : Img) : HP := { h.cs h.next a b with next := h.next + 1 }
theorem look_cs (h : HP) (n : Nat) (a b : Img) : (h.cs n a b).look (.obj n) = some ⟨tCache, encC a b⟩ := by simp [HP.cs, HP.set, HP.look]
theorem cs_cs (h : HP) (n : Nat) (a b c d : Img) : (h.cs n a b).cs n c d = h.cs n c d := by
  simp only [HP.cs, HP.set]; congr 1; funext k; by_cases e : k = n <;> simp [e]
theorem push_cs (h : HP) (l n : Nat) (o : Own) (a b : Img) : (h.push l o).cs n a b = (h.cs n a b).push l o := rfl
theorem push_look_obj (h : HP) (l n : Nat) (o : Own) : (h.push l o).look (.obj n) = h.look (.obj n) := rfl
theorem HP.rd0 {h : HP} {i : Id} {a : Nat} {v : AV} (hm : h.rd i [a] = some v) (r : List Nat) : h.rd i (a :: r) = v.at r := HP.rd_app hm r
theorem rd_of {h : HP} {n : Nat} {a b : Img} (h0 : h.look (.obj n) = some ⟨tCache, encC a b⟩) : h.rd (.obj n) [0] = some a.enc ∧ h.rd (.obj n) [1] = some b.enc := by
  simp only [HP.rd, h0, Option.bind_some, at_cache0, at_cache1, at_nil, and_self]
section
variable {T : Nat → Option MFun} {cx : Cx} {k : List Item} {kill : List Nat} {r : List MOp} {sl : Slots} {own : Own} {h : HP} {Q : St → Prop}
theorem W_callh {prot : Bool} {f : Nat} {args : List Opd} {d : Option Nat} {fn : MFun} {v : AV} (h1 : HP) (hf : T f = some fn) (hp : fn.params = args.length ∧ fn.nfree = 0) (hs : h1.stk = h.stk)
    (hc : Ok T (St.callCx ⟨sl, own, h⟩ cx prot) fn (St.enter (args.map (St.opd ⟨sl, own, h⟩)) (h.push cx.lvl own)) fun v' h' => v' = v ∧ h' = h1.push cx.lvl own)
    (hq : W T cx (.ops r kill :: k) (St.setd ⟨sl, own, h1⟩ d v) Q) :
    W T cx (.ops (⟨d, .call prot [] f args, none⟩ :: r) kill :: k) ⟨sl, own, h⟩ Q := by
  refine W_callr hf hp hc ?_
  rintro v h' ⟨rfl, rfl⟩
  have : St.pop ⟨sl, own, h⟩ cx.lvl [] (h1.push cx.lvl own) = ⟨sl, own, h1⟩ := by
    simp only [St.pop, HP.pop, HP.push, Own.unveil, if_true]
    congr 1
    cases h1
    simp only at hs
    subst hs
    simp only [HP.mk.injEq, and_true]
    funext l
    by_cases hl : l = cx.lvl <;> simp [hl]
  rw [this]; exact hq
theorem W_callhide {prot : Bool} {hide : List Nat} {f : Nat} {args : List Opd} {d : Option Nat} {fn : MFun} {v : AV} (hf : T f = some fn) (hp : fn.params = args.length ∧ fn.nfree = 0)
    (hc : Ok T (St.callCx ⟨sl, [], h⟩ cx prot) fn (St.enter (args.map (St.opd ⟨sl, [], h⟩)) (h.push cx.lvl [])) fun v' h' => v' = v ∧ h' = h.push cx.lvl [])
    (hq : W T cx (.ops r kill :: k) (St.setd ⟨sl, [], h⟩ d v) Q) :
    W T cx (.ops (⟨d, .call prot hide f args, none⟩ :: r) kill :: k) ⟨sl, [], h⟩ Q := by
  have e : Own.veil [] hide = [] := by cases hide <;> rfl
  refine W_callr (R := fun v' h' => v' = v ∧ h' = h.push cx.lvl []) hf hp (by rw [e]; exact hc) ?_
  rintro v h' ⟨rfl, rfl⟩
  have : St.pop ⟨sl, [], h⟩ cx.lvl hide (h.push cx.lvl []) = ⟨sl, [], h⟩ := by
    simp only [St.pop, HP.pop, HP.push, if_true]
    have e2 : Own.unveil [] [] hide = [] := by cases hide <;> rfl
    rw [e2]
    congr 1
    cases h
    simp only [HP.mk.injEq, and_true]
    funext l
    by_cases hl : l = cx.lvl <;> simp [hl]
  rw [this]; exact hq
def WBT (T : Nat → Option MFun) (cx : Cx) (v : AV) (d : Nat) (r : List MOp) (kill : List Nat) (k : List Item) (sl : Slots) (own : Own) (h : HP) (Q : St → Prop) : Prop :=
  tCache.fits v = true ∧ W T cx (.ops r kill :: k) ⟨sl.set d (.ptr (.obj h.next) [] tCache), own, { h with obj := fun n => if n = h.next then some ⟨tCache, v⟩ else h.obj n, next := h.next + 1 }⟩ Q
@[go_sem] theorem WBT_enc {a b : Img} {d : Nat} : WBT T cx (encC a b) d r kill k sl own h Q = W T cx (.ops r kill :: k) ⟨sl.set d (.ptr (.obj h.next) [] tCache), own, h.mk1 a b⟩ Q := by
  simp only [WBT, fits_cache, true_and]
  rfl
@[go_sem] theorem W_boxT {d : Nat} {x : Opd} : W T cx (.ops (⟨some d, .box true tCache x, none⟩ :: r) kill :: k) ⟨sl, own, h⟩ Q = WBT T cx (St.opd ⟨sl, own, h⟩ x) d r kill k sl own h Q := by
  rw [W_op rfl, evOp]
  simp only [evK, WBT]
  by_cases h1 : tCache.fits (St.opd ⟨sl, own, h⟩ x) = true
  · simp only [h1, true_and, if_true]; rfl
  · simp only [h1, false_and, Bool.false_eq_true, if_false]; rfl
theorem stV_cache1 {n : Nat} {a b x : Img} (hm : h.look (.obj n) = some ⟨tCache, encC a b⟩) (hl : cx.prot.lets (.obj n) = true) : stV cx tImage (.ptr (.obj n) [1] tImage) x.enc ⟨sl, own, h⟩ = some ⟨sl, own, h.cs n a x⟩ := by
  simp only [stV, fits_img', and_self, if_true, St.look, Id.own, hm, put_cache1, St.write, hl]
  rfl
@[go_sem] theorem eqV_nilp (neg : Bool) (n : Nat) (t : Ty) : eqV tP neg (.ptr (.obj n) [] t) .nilp = some (.bool neg) := by cases neg <;> rfl
@[go_sem] theorem eqV_nilnil (neg : Bool) : eqV tP neg .nilp .nilp = some (.bool (!neg)) := by cases neg <;> rfl
@[go_sem] theorem safe_ptrobj (n : Nat) (p : List Nat) (t : Ty) : (AV.ptr (.obj n) p t).safe = true := rfl
@[go_sem] theorem safe_nilp : AV.nilp.safe = true := rfl
@[go_sem] theorem callCx_prot (s : St) : (s.callCx cx false).prot = cx.prot := rfl
end
section
variable {cx : Cx} {h : HP} {n : Nat} {a b : Img}
theorem CNew_ok : Ok tblB cx Fn.cache_New (St.enter [] h) fun v h' => v = .ptr (.obj h.next) [] tCache ∧ h' = h.mk1 Img.blank Img.blank := by
  rw [Ok_eq]
  simp (config := { maxSteps := 1000000 }) (disch := omega) only [go_sem]
  refine W_callp rfl ⟨rfl, rfl⟩ (by simp only [go_sem]; exact up (New_ok)) ?_
  simp (config := { maxSteps := 1000000 }) (disch := omega) only [go_sem]
  refine W_callp rfl ⟨rfl, rfl⟩ (by simp only [go_sem]; exact up (New_ok)) ?_
  simp (config := { maxSteps := 1000000 }) (disch := omega) only [go_sem]
theorem COf_ok {m : Img} (hs : m.small) (hc : check m = 0) : Ok tblB cx Fn.cache_Of (St.enter [m.enc] h) fun v h' => v = .ptr (.obj h.next) [] tCache ∧ h' = h.mk1 m m := by
  rw [Ok_eq]
  simp (config := { maxSteps := 1000000 }) (disch := omega) only [go_sem]
  refine W_callp rfl ⟨rfl, rfl⟩ (by simp only [go_sem]; exact up (Check_ok (m := m) hs (below_stk _ _) (by simp only [go_sem, HP.push_rd_own]))) ?_
  simp (config := { maxSteps := 1000000 }) (disch := omega) only [go_sem, hc]
theorem COf_no {m : Img} (hs : m.small) (hc : ¬check m = 0) : Ok tblB cx Fn.cache_Of (St.enter [m.enc] h) fun v h' => v = .nilp ∧ h' = h := by
  rw [Ok_eq]
  simp (config := { maxSteps := 1000000 }) (disch := omega) only [go_sem]
  refine W_callp rfl ⟨rfl, rfl⟩ (by simp only [go_sem]; exact up (Check_ok (m := m) hs (below_stk _ _) (by simp only [go_sem, HP.push_rd_own]))) ?_
  simp (config := { maxSteps := 1000000 }) (disch := omega) only [go_sem, hc]
theorem CDisk_ok (hm : h.rd (.obj n) [0] = some a.enc) (hm' : h.rd (.obj n) [1] = some b.enc) : Ok tblB cx Fn.cache_Cache_Disk (St.enter [.ptr (.obj n) [] tCache] h) fun v h' => v = b.enc ∧ h' = h := by
  rw [Ok_eq]
  simp (config := { maxSteps := 1000000 }) (disch := omega) only [go_sem, rd_ext (below_obj _ _), HP.rd0 hm, HP.rd0 hm', fg_ptr (below_obj _ _), leads_ptr (below_obj _ _), apart_ptr (below_obj _ _), hm']
theorem CClean_ok (hm : h.rd (.obj n) [0] = some a.enc) (hm' : h.rd (.obj n) [1] = some b.enc) : Ok tblB cx Fn.cache_Cache_Clean (St.enter [.ptr (.obj n) [] tCache] h) fun v h' => v = .bool (decide (a = b)) ∧ h' = h := by
  rw [Ok_eq]
  simp (config := { maxSteps := 1000000 }) (disch := omega) only [go_sem, rd_ext (below_obj _ _), HP.rd0 hm, HP.rd0 hm', fg_ptr (below_obj _ _), leads_ptr (below_obj _ _), apart_ptr (below_obj _ _), hm, hm']
theorem CWrite_ok {x : Int} (h0 : h.look (.obj n) = some ⟨tCache, encC a b⟩) (hl : cx.prot.lets (.obj n) = true) :
    Ok tblB cx Fn.cache_Cache_Write (St.enter [.ptr (.obj n) [] tCache, .int .i64 x] h) fun v h' => v = .bool (writeAs a b x).2 ∧ h' = h.cs n a (writeAs a b x).1 := by
  obtain ⟨hm, hm'⟩ := rd_of h0
  rw [Ok_eq]
  simp (config := { maxSteps := 1000000 }) (disch := omega) only [go_sem, rd_ext (below_obj _ _), HP.rd0 hm, HP.rd0 hm', fg_ptr (below_obj _ _), leads_ptr (below_obj _ _), apart_ptr (below_obj _ _)]
  refine W_callhide rfl ⟨rfl, rfl⟩ (by simp only [go_sem]; exact up (Write_ok (m := a) (m' := b) (p := .obj n) (p' := .obj n) (q := [0]) (q' := [1]) (below_obj _ _) (by rw [HP.push_rd_ext (below_obj _ _)]; exact hm) (below_obj _ _) (by rw [HP.push_rd_ext (below_obj _ _)]; exact hm'))) ?_
  simp (config := { maxSteps := 1000000 }) (disch := omega) only [go_sem, rd_ext (below_obj _ _), HP.rd0 hm, HP.rd0 hm', fg_ptr (below_obj _ _), leads_ptr (below_obj _ _), apart_ptr (below_obj _ _), stV_cache1 h0 hl]
theorem CInode_ok (hm : h.rd (.obj n) [0] = some a.enc) (hm' : h.rd (.obj n) [1] = some b.enc) :
    Ok tblB cx Fn.cache_Cache_Inode (St.enter [.ptr (.obj n) [] tCache] h) fun v h' => v = .int .i64 (findN 8 fun k => !(a.ino k).live && decide (refs b k = 0)) ∧ h' = h := by
  rw [Ok_eq]
  simp (config := { maxSteps := 1000000 }) (disch := omega) only [go_sem, rd_ext (below_obj _ _), HP.rd0 hm, HP.rd0 hm', fg_ptr (below_obj _ _), leads_ptr (below_obj _ _), apart_ptr (below_obj _ _)]
  refine W_forP 8 (fun k => ⟨[(0, .ptr (.obj n) [] tCache), (9, encV Ino.enc a.inode), (10, .int .i64 k)], [], h⟩) (fun k => ∀ i, i < k → (!(a.ino i).live && decide (refs b i = 0)) = false) (by simp only [go_sem] <;> rfl) (fun i hi => by omega) fun k hk hp ih => ?_
  by_cases hlt : k < 8
  · simp (config := { maxSteps := 1000000 }) (disch := omega) only [go_sem, hlt, rd_ext (below_obj _ _), HP.rd0 hm, HP.rd0 hm', fg_ptr (below_obj _ _), leads_ptr (below_obj _ _), apart_ptr (below_obj _ _)]
    cases c1 : (a.ino k).live with
    | true =>
      simp (config := { maxSteps := 1000000 }) (disch := omega) only [go_sem, c1]
      refine ih _ hlt (step_all hp (by simp [c1])) ?_
      simp only [go_sem]
    | false =>
      simp (config := { maxSteps := 1000000 }) (disch := omega) only [go_sem, c1, rd_ext (below_obj _ _), HP.rd0 hm, HP.rd0 hm', fg_ptr (below_obj _ _), leads_ptr (below_obj _ _), apart_ptr (below_obj _ _)]
      refine W_callp rfl ⟨rfl, rfl⟩ (by simp only [go_sem]; exact up (Refs_ok (m := b) (p := .obj n) (q := [1]) (below_obj _ _) (by rw [HP.push_rd_ext (below_obj _ _)]; exact hm'))) ?_
      simp (config := { maxSteps := 1000000 }) (disch := omega) only [go_sem]
      by_cases c2 : refs b k = 0
      · simp (config := { maxSteps := 1000000 }) (disch := omega) only [go_sem, c2]
        rw [findN_at hp (by simp [c1, c2]) hlt]
      · simp (config := { maxSteps := 1000000 }) (disch := omega) only [go_sem, c2]
        refine ih _ hlt (step_all hp (by simp [c1, c2])) ?_
        simp only [go_sem]
  · obtain rfl : k = 8 := by omega
    simp (config := { maxSteps := 1000000 }) (disch := omega) only [go_sem]
    rw [findN_none hp]
def freeSlot (a b : Img) (d : Int) : Int := if d < 0 ∨ 3 ≤ d then -1 else findN 4 fun s => decide ((a.ent d.toNat s).name = ⟨#[]⟩) && decide ((b.ent d.toNat s).name = ⟨#[]⟩)
theorem CSlot_ok {d : Int} (hm : h.rd (.obj n) [0] = some a.enc) (hm' : h.rd (.obj n) [1] = some b.enc) :
    Ok tblB cx Fn.cache_Cache_Slot (St.enter [.ptr (.obj n) [] tCache, .int .i64 d] h) fun v h' => v = .int .i64 (freeSlot a b d) ∧ h' = h := by
  rw [Ok_eq]
  simp (config := { maxSteps := 1000000 }) (disch := omega) only [go_sem, rd_ext (below_obj _ _), HP.rd0 hm, HP.rd0 hm', fg_ptr (below_obj _ _), leads_ptr (below_obj _ _), apart_ptr (below_obj _ _)]
  by_cases c0 : d < 0
  · simp (config := { maxSteps := 1000000 }) (disch := omega) only [go_sem, c0]; simp [freeSlot, c0]
  by_cases c3 : 3 ≤ d
  · simp (config := { maxSteps := 1000000 }) (disch := omega) only [go_sem, c0, c3]; simp [freeSlot, c3]
  have e : freeSlot a b d = findN 4 fun s => decide ((a.ent d.toNat s).name = ⟨#[]⟩) && decide ((b.ent d.toNat s).name = ⟨#[]⟩) := by simp only [freeSlot]; rw [if_neg (by omega)]
  simp (config := { maxSteps := 1000000 }) (disch := omega) only [go_sem, c0, c3]
  refine W_forP 4 (fun s => ⟨[(0, .ptr (.obj n) [] tCache), (1, .int .i64 d), (12, .int .i64 s)], [], h⟩) (fun s => ∀ i, i < s → (decide ((a.ent d.toNat i).name = ⟨#[]⟩) && decide ((b.ent d.toNat i).name = ⟨#[]⟩)) = false) (by simp only [go_sem] <;> rfl) (fun i hi => by omega) fun s hs hp ih => ?_
  by_cases hlt : s < 4
  · simp (config := { maxSteps := 1000000 }) (disch := omega) only [go_sem, hlt, c0, c3, rd_ext (below_obj _ _), HP.rd0 hm, HP.rd0 hm', fg_ptr (below_obj _ _), leads_ptr (below_obj _ _), apart_ptr (below_obj _ _)]
    by_cases c1 : (a.ent d.toNat s).name = ⟨#[]⟩
    · by_cases c2 : (b.ent d.toNat s).name = ⟨#[]⟩
      · simp (config := { maxSteps := 1000000 }) (disch := omega) only [go_sem, hlt, c0, c3, c1, c2, rd_ext (below_obj _ _), HP.rd0 hm, HP.rd0 hm', fg_ptr (below_obj _ _), leads_ptr (below_obj _ _), apart_ptr (below_obj _ _), e]
        rw [findN_at hp (by simp [c1, c2]) hlt]
      · simp (config := { maxSteps := 1000000 }) (disch := omega) only [go_sem, hlt, c0, c3, c1, c2, rd_ext (below_obj _ _), HP.rd0 hm, HP.rd0 hm', fg_ptr (below_obj _ _), leads_ptr (below_obj _ _), apart_ptr (below_obj _ _)]
        refine ih _ hlt (step_all hp (by simp [c2])) ?_
        simp only [go_sem]
    · simp (config := { maxSteps := 1000000 }) (disch := omega) only [go_sem, c1]
      refine ih _ hlt (step_all hp (by simp [c1])) ?_
      simp only [go_sem]
  · obtain rfl : s = 4 := by omega
    simp (config := { maxSteps := 1000000 }) (disch := omega) only [go_sem, e]
    rw [findN_none hp]
theorem CData_ok (hm : h.rd (.obj n) [0] = some a.enc) (hm' : h.rd (.obj n) [1] = some b.enc) :
    Ok tblB cx Fn.cache_Cache_Data (St.enter [.ptr (.obj n) [] tCache] h) fun v h' => v = .int .i64 (findN 9 fun x => !held a x && !held b x) ∧ h' = h := by
  rw [Ok_eq]
  simp (config := { maxSteps := 1000000 }) (disch := omega) only [go_sem, rd_ext (below_obj _ _), HP.rd0 hm, HP.rd0 hm', fg_ptr (below_obj _ _), leads_ptr (below_obj _ _), apart_ptr (below_obj _ _)]
  refine W_forP 9 (fun k => ⟨[(0, .ptr (.obj n) [] tCache), (4, .int .i64 k)], [], h⟩) (fun k => ∀ i, i < k → (!held a i && !held b i) = false) (by simp only [go_sem] <;> rfl) (fun i hi => by omega) fun k hk hp ih => ?_
  by_cases hlt : k < 9
  · simp (config := { maxSteps := 1000000 }) (disch := omega) only [go_sem, hlt, rd_ext (below_obj _ _), HP.rd0 hm, HP.rd0 hm', fg_ptr (below_obj _ _), leads_ptr (below_obj _ _), apart_ptr (below_obj _ _)]
    refine W_callp rfl ⟨rfl, rfl⟩ (by simp only [go_sem]; exact up (Holds_ok (m := a) (p := .obj n) (q := [0]) (below_obj _ _) (by rw [HP.push_rd_ext (below_obj _ _)]; exact hm))) ?_
    simp (config := { maxSteps := 1000000 }) (disch := omega) only [go_sem]
    cases c1 : held a k with
    | true =>
      simp (config := { maxSteps := 1000000 }) (disch := omega) only [go_sem, c1]
      refine ih _ hlt (step_all hp (by simp [c1])) ?_
      simp only [go_sem]
    | false =>
      simp (config := { maxSteps := 1000000 }) (disch := omega) only [go_sem, c1, rd_ext (below_obj _ _), HP.rd0 hm, HP.rd0 hm', fg_ptr (below_obj _ _), leads_ptr (below_obj _ _), apart_ptr (below_obj _ _)]
      refine W_callp rfl ⟨rfl, rfl⟩ (by simp only [go_sem]; exact up (Holds_ok (m := b) (p := .obj n) (q := [1]) (below_obj _ _) (by rw [HP.push_rd_ext (below_obj _ _)]; exact hm'))) ?_
      simp (config := { maxSteps := 1000000 }) (disch := omega) only [go_sem]
      cases c2 : held b k with
      | false =>
        simp (config := { maxSteps := 1000000 }) (disch := omega) only [go_sem, c2]
        rw [findN_at hp (by simp [c1, c2]) hlt]
      | true =>
        simp (config := { maxSteps := 1000000 }) (disch := omega) only [go_sem, c2]
        refine ih _ hlt (step_all hp (by simp [c1, c2])) ?_
        simp only [go_sem]
  · obtain rfl : k = 9 := by omega
    simp (config := { maxSteps := 1000000 }) (disch := omega) only [go_sem]
    rw [findN_none hp]
end
end Go.Mini

namespace Go.Mini
set_option linter.unusedSimpArgs false
set_option linter.unusedVariables false
set_option maxHeartbeats 4000000
set_option maxRecDepth 100000
def dirty (a b : Img) (x : Int) : Bool :=
  if (blockOf x).1 = sInodes then anyN 4 fun j => !decide (a.ino ((blockOf x).2.toNat + j) = b.ino ((blockOf x).2.toNat + j))
  else if (blockOf x).1 = sDir then anyN 4 fun s => !decide (a.ent (blockOf x).2.toNat s = b.ent (blockOf x).2.toNat s)
  else if (blockOf x).1 = sData then !decide (a.dat (blockOf x).2.toNat = b.dat (blockOf x).2.toNat)
  else false
section
variable {a b : Img} {x : Int} {n : Nat}
theorem dirty_i (e : blockOf x = (sInodes, (n : Int))) : dirty a b x = anyN 4 fun j => !decide (a.ino (n + j) = b.ino (n + j)) := by simp only [dirty, e, if_true, Int.toNat_natCast]
theorem dirty_d (e : blockOf x = (sDir, (n : Int))) : dirty a b x = anyN 4 fun s => !decide (a.ent n s = b.ent n s) := by simp only [dirty, e, if_true, if_false, ne_di, Int.toNat_natCast]
theorem dirty_a (e : blockOf x = (sData, (n : Int))) : dirty a b x = !decide (a.dat n = b.dat n) := by simp only [dirty, e, if_true, if_false, ne_ai, ne_ad, Int.toNat_natCast]
theorem dirty_n (e : blockOf x = (sNone, 0)) : dirty a b x = false := by simp only [dirty, e, if_false, ne_ni, ne_nd, ne_na]
end
theorem row_eq (a b : Img) {n : Nat} (hn : n < 3) : (decide (a.dir[n]'hn = b.dir[n]'hn)) = !anyN 4 fun s => !decide (a.ent n s = b.ent n s) := by
  rw [Bool.eq_iff_iff, decide_eq_true_eq, Bool.not_eq_true', anyN_false]
  constructor
  · intro h s hs
    have : a.ent n s = b.ent n s := by simp [Img.ent, hn, hs, h]
    simp [this]
  · intro h
    ext s hs : 1
    have := h s hs
    simpa [Img.ent, hn, hs] using this
theorem clean_iff (a b : Img) : (a = b) ↔ ∀ k : Nat, k < 14 → dirty a b k = false := by
  have bi : ∀ k : Nat, k < 2 → blockOf (k : Int) = (sInodes, ((k * 4 : Nat) : Int)) := fun k hk => by
    unfold blockOf; rw [if_neg (by omega), if_pos (by omega)]; congr 1
  have bd : ∀ k : Nat, k < 3 → blockOf ((k + 2 : Nat) : Int) = (sDir, (k : Int)) := fun k hk => by
    unfold blockOf; rw [if_neg (by omega), if_neg (by omega), if_pos (by omega)]; congr 1; omega
  have ba : ∀ k : Nat, k < 9 → blockOf ((k + 5 : Nat) : Int) = (sData, (k : Int)) := fun k hk => by
    unfold blockOf; rw [if_neg (by omega), if_neg (by omega), if_neg (by omega)]; congr 1; omega
  constructor
  · rintro rfl k hk
    obtain ⟨n, _, e⟩ | ⟨n, _, e⟩ | ⟨n, _, e⟩ | e := blockOf_cases (k : Int)
    · rw [dirty_i e, anyN_false]; intro i _; simp
    · rw [dirty_d e, anyN_false]; intro i _; simp
    · rw [dirty_a e]; simp
    · exact dirty_n e
  · intro h
    refine Img.ext_of (fun n hn => ?_) (fun d s hd hs => ?_) (fun x hx => ?_)
    · have := h (n / 4) (by omega)
      rw [dirty_i (bi (n / 4) (by omega)), anyN_false] at this
      have := this (n % 4) (by omega)
      rw [show n / 4 * 4 + n % 4 = n by omega] at this
      simpa using this
    · have := h (d + 2) (by omega)
      rw [dirty_d (bd d hd), anyN_false] at this
      simpa using this s hs
    · have := h (x + 5) (by omega)
      rw [dirty_a (ba x hx)] at this
      simpa using this
def wrDown (a b : Img) : Nat → Img
  | 0 => b
  | k + 1 => (writeAs a (wrDown a b k) (13 - (k : Int))).1
def syncD (a b : Img) : Nat → Img
  | 0 => b
  | k + 1 => wrDown a (syncD a b k) 14
section
variable {cx : Cx} {h : HP} {n : Nat} {a b : Img}
theorem CDirty_ok {x : Int} (hm : h.rd (.obj n) [0] = some a.enc) (hm' : h.rd (.obj n) [1] = some b.enc) :
    Ok tblB cx Fn.cache_Cache_Dirty (St.enter [.ptr (.obj n) [] tCache, .int .i64 x] h) fun v h' => v = .bool (dirty a b x) ∧ h' = h := by
  rw [Ok_eq]
  simp (config := { maxSteps := 1000000 }) (disch := omega) only [go_sem]
  refine W_callp rfl ⟨rfl, rfl⟩ (by simp only [go_sem]; exact up (Block_ok)) ?_
  simp (config := { maxSteps := 1000000 }) (disch := omega) only [go_sem]
  obtain ⟨k, hk, e⟩ | ⟨k, hk, e⟩ | ⟨k, hk, e⟩ | e := blockOf_cases x
  · simp (config := { maxSteps := 1000000 }) (disch := omega) only [go_sem, e]
    refine W_forP 4 (fun j => ⟨[(0, .ptr (.obj n) [] tCache), (6, .int .i64 k), (7, .int .i64 (k + j : Nat))], [], h⟩) (fun j => ∀ i, i < j → (!decide (a.ino (k + i) = b.ino (k + i))) = false) (by simp only [go_sem] <;> rfl) (fun i hi => by omega) fun j hj hp ih => ?_
    by_cases hlt : j < 4
    · simp (config := { maxSteps := 1000000 }) (disch := omega) only [go_sem, hlt, rd_ext (below_obj _ _), HP.rd0 hm, HP.rd0 hm', fg_ptr (below_obj _ _), leads_ptr (below_obj _ _), apart_ptr (below_obj _ _)]
      by_cases c : a.ino (k + j) = b.ino (k + j)
      · simp (config := { maxSteps := 1000000 }) (disch := omega) only [go_sem, c]
        refine ih _ hlt (step_all hp (by simp [c])) ?_
        simp only [go_sem, Int.add_assoc]
      · simp (config := { maxSteps := 1000000 }) (disch := omega) only [go_sem, c]
        rw [dirty_i e, anyN_at hlt (by simp [c])]
    · obtain rfl : j = 4 := by omega
      simp (config := { maxSteps := 1000000 }) (disch := omega) only [go_sem]
      rw [dirty_i e, anyN_false.2 hp]
  · simp (config := { maxSteps := 1000000 }) (disch := omega) only [go_sem, e, rd_ext (below_obj _ _), HP.rd0 hm, HP.rd0 hm', fg_ptr (below_obj _ _), leads_ptr (below_obj _ _), apart_ptr (below_obj _ _), row_eq a b hk, dirty_d e, Bool.not_not]
  · simp (config := { maxSteps := 1000000 }) (disch := omega) only [go_sem, e, rd_ext (below_obj _ _), HP.rd0 hm, HP.rd0 hm', fg_ptr (below_obj _ _), leads_ptr (below_obj _ _), apart_ptr (below_obj _ _), dirty_a e]
  · simp (config := { maxSteps := 1000000 }) (disch := omega) only [go_sem, e, dirty_n e]
theorem CSync_ok (hl : cx.prot.lets (.obj n) = true) : Ok tblB cx Fn.cache_Cache_Sync (St.enter [.ptr (.obj n) [] tCache] (h.cs n a b)) fun v h' =>
    ∃ k : Nat, k ≤ 8 ∧ v = .int .i64 k ∧ h' = h.cs n a (syncD a b k) ∧ (k = 8 ∨ a = syncD a b k) ∧ ∀ i, i < k → ¬a = syncD a b i := by
  rw [Ok_eq]
  simp (config := { maxSteps := 1000000 }) (disch := omega) only [go_sem]
  refine W_forP 8 (fun j => ⟨[(0, .ptr (.obj n) [] tCache), (3, .int .i64 j)], [], h.cs n a (syncD a b j)⟩) (fun j => ∀ i, i < j → ¬a = syncD a b i) (by simp only [go_sem, syncD] <;> rfl) (fun i hi => by omega) fun j hj hp ih => ?_
  by_cases hlt : j < 8
  · obtain ⟨hm, hm'⟩ := rd_of (look_cs h n a (syncD a b j))
    simp (config := { maxSteps := 1000000 }) (disch := omega) only [go_sem]
    refine W_callp rfl ⟨rfl, rfl⟩ (by simp only [go_sem]; exact CClean_ok (a := a) (b := syncD a b j) (by rw [HP.push_rd_ext (below_obj _ _)]; exact hm) (by rw [HP.push_rd_ext (below_obj _ _)]; exact hm')) ?_
    simp (config := { maxSteps := 1000000 }) (disch := omega) only [go_sem]
    by_cases c : a = syncD a b j
    · have c' : decide (a = syncD a b j) = true := decide_eq_true c
      simp (config := { maxSteps := 1000000 }) (disch := omega) only [go_sem, c']
      exact ⟨j, hj, rfl, rfl, .inr c, hp⟩
    · simp (config := { maxSteps := 1000000 }) (disch := omega) only [go_sem, c]
      refine W_for 14 (fun i => ⟨[(0, .ptr (.obj n) [] tCache), (3, .int .i64 j), (4, .int .i64 (13 - (i : Int)))], [], h.cs n a (wrDown a (syncD a b j) i)⟩) (by simp only [go_sem, wrDown] <;> rfl) fun i hi ih2 => ?_
      by_cases hlt2 : i < 14
      · simp (config := { maxSteps := 1000000 }) (disch := omega) only [go_sem]
        refine W_callh (v := .bool (writeAs a (wrDown a (syncD a b j) i) (13 - (i : Int))).2) (h.cs n a (wrDown a (syncD a b j) (i + 1))) rfl ⟨rfl, rfl⟩ rfl (by
          simp only [go_sem]
          refine Ok.mono (CWrite_ok (h := (h.cs n a (wrDown a (syncD a b j) i)).push cx.lvl []) (n := n) (a := a) (b := wrDown a (syncD a b j) i) (by rw [push_look_obj]; exact look_cs h n a _) hl) ?_
          rintro v h' ⟨h1, h2⟩
          exact ⟨h1, by rw [h2, push_cs, cs_cs]; rfl⟩) ?_
        simp (config := { maxSteps := 1000000 }) (disch := omega) only [go_sem]
        refine ih2 _ hlt2 ?_
        have e2 : (13 : Int) - (i : Int) - 1 = 13 - ((i : Int) + 1) := by omega
        simp only [go_sem, e2]
      · obtain rfl : i = 14 := by omega
        simp (config := { maxSteps := 1000000 }) (disch := omega) only [go_sem]
        refine ih _ hlt (step_all hp c) ?_
        simp only [go_sem, syncD]
  · obtain rfl : j = 8 := by omega
    simp (config := { maxSteps := 1000000 }) (disch := omega) only [go_sem]
    exact ⟨8, Nat.le_refl _, rfl, rfl, .inl rfl, hp⟩
end
end Go.Mini

namespace Go.Mini
set_option linter.unusedSimpArgs false
set_option linter.unusedVariables false
set_option maxHeartbeats 4000000
set_option maxRecDepth 100000
section
variable {cx : Cx} {h : HP} {a b m m' : Img}
theorem W_callhv {T : Nat → Option MFun} {k : List Item} {kill : List Nat} {r : List MOp} {sl : Slots} {own : Own} {Q : St → Prop} {P : AV → Prop} {prot : Bool} {f : Nat} {args : List Opd} {d : Option Nat} {fn : MFun} (h1 : HP) (hf : T f = some fn) (hp : fn.params = args.length ∧ fn.nfree = 0) (hs : h1.stk = h.stk)
    (hc : Ok T (St.callCx ⟨sl, own, h⟩ cx prot) fn (St.enter (args.map (St.opd ⟨sl, own, h⟩)) (h.push cx.lvl own)) fun v' h' => P v' ∧ h' = h1.push cx.lvl own)
    (hq : ∀ v, P v → W T cx (.ops r kill :: k) (St.setd ⟨sl, own, h1⟩ d v) Q) :
    W T cx (.ops (⟨d, .call prot [] f args, none⟩ :: r) kill :: k) ⟨sl, own, h⟩ Q := by
  refine W_callr hf hp hc ?_
  rintro v h' ⟨hv, rfl⟩
  have : St.pop ⟨sl, own, h⟩ cx.lvl [] (h1.push cx.lvl own) = ⟨sl, own, h1⟩ := by
    simp only [St.pop, HP.pop, HP.push, Own.unveil, if_true]
    congr 1
    cases h1
    simp only at hs
    subst hs
    simp only [HP.mk.injEq, and_true]
    funext l
    by_cases hl : l = cx.lvl <;> simp [hl]
  rw [this]; exact hq v hv
end
end Go.Mini

namespace Go.Mini
namespace Fn
end Fn
def tblDL0 : List (Option MFun) := [none, none, none, none, none, none, none, none, none, none, none, none, none, none, none, none, none, none, none, none, none, none, none, none, none, none, none, none, none, none, none, none, none, none, none, none, none, none, none, none, none, none, none, none, none, none, none, none, none, none, none, none, none, none, none, none, none, none, none, none, none, none, none, none, none]
end Go.Mini
