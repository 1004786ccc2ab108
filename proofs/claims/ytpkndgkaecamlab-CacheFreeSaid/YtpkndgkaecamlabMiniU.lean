/- A part of the proof: MiniU. -/
import Derived.Test.YtpkndgkaecamlabMiniT
namespace Go.Mini
set_option linter.unusedSimpArgs false
set_option linter.unusedVariables false
set_option maxHeartbeats 4000000
set_option maxRecDepth 100000

theorem sumN_zeros {f : Nat → Nat} {n : Nat} (h : ∀ i, i < n → f i = 0) : sumN n f = 0 := by
  induction n with
  | zero => rfl
  | succ n ih => rw [sumN, ih fun i hi => h i (by omega), h n (by omega)]
theorem sumN_comm (f : Nat → Nat → Nat) (a : Nat) : ∀ b, sumN a (fun i => sumN b (f i)) = sumN b (fun j => sumN a fun i => f i j)
  | 0 => by simp only [sumN]; exact sumN_zeros fun _ _ => rfl
  | b + 1 => by
    simp only [sumN]
    rw [sumN_add, sumN_comm f a b]
theorem sumN_one {j : Nat} : ∀ {n}, j < n → sumN n (fun i => b2n (decide (i = j))) = 1
  | 0, h => by omega
  | n + 1, h => by
    rw [sumN]
    by_cases e : j = n
    · subst e
      rw [sumN_zeros fun i hi => by have : ¬i = j := by omega
                                    simp [b2n, this]]
      simp [b2n]
    · have : ¬n = j := fun h => e h.symm
      rw [sumN_one (by omega)]
      simp [b2n, this]

/-! How many names there are, and how many lead to inodes that are live. -/
def named (m : Img) (d s : Nat) : Bool := !decide ((m.ent d s).name = ⟨#[]⟩)
def namesRow (m : Img) (d k : Nat) : Nat := sumN k fun s => b2n (named m d s)
def names (m : Img) (k : Nat) : Nat := sumN k fun d => namesRow m d 4
def refsTo (m : Img) (k : Nat) : Nat := sumN k fun n => if (m.ino n).live = true then refs m n else 0
theorem namesRow_le (m : Img) (d k : Nat) : namesRow m d k ≤ k := by
  have := sumN_le (fun s => b2n_le (named m d s)) k; simpa [namesRow] using this
theorem names_le (m : Img) (k : Nat) : names m k ≤ k * 4 := sumN_le (fun d => namesRow_le m d 4) k
theorem refsTo_le (m : Img) (k : Nat) : refsTo m k ≤ k * 12 := sumN_le (fun n => by
    split
    · exact refs_le m n
    · omega) k
theorem dead_refs {m : Img} (hc : check m = 0) {n : Nat} (hn : n < 8) (hl : (m.ino n).live = false) : refs m n = 0 := by
  refine sumN_zeros fun d hd => sumN_zeros fun s hs => ?_
  rcases entry_parts ((check_parts hc).1 d hd s hs) with e | ⟨a1, a2, a3, a4, a5, a6, a7⟩
  · rw [leads_zero e]; rfl
  · have : ¬(m.ent d s).ino = (n : Int) := fun e => by
      have : (m.ent d s).ino.toNat = n := by omega
      rw [this, hl] at a6; exact absurd a6 (by simp)
    simp [leads, this, b2n]
theorem leads_sum {m : Img} (hc : check m = 0) {d s : Nat} (hd : d < 3) (hs : s < 4) : sumN 8 (fun n => b2n (leads m d s (n : Nat))) = b2n (named m d s) := by
  rcases entry_parts ((check_parts hc).1 d hd s hs) with e | ⟨a1, a2, a3, a4, a5, a6, a7⟩
  · rw [sumN_zeros fun n _ => by rw [leads_zero e]; rfl]
    simp [named, e, show Ent.zero.name = ⟨#[]⟩ from rfl, b2n]
  · have h1 := sumN_one (j := (m.ent d s).ino.toNat) (n := 8) (by omega)
    have h2 : b2n (named m d s) = 1 := by simp [named, a1, b2n]
    rw [h2, ← h1]
    refine sumN_congr fun n hn => ?_
    congr 1
    have : ((m.ent d s).ino = (n : Int)) = (n = (m.ent d s).ino.toNat) := by apply propext; constructor <;> intro h <;> omega
    simp [leads, a1, this]
theorem names_refs {m : Img} (hc : check m = 0) : names m 3 = refsTo m 8 := by
  have e1 : refsTo m 8 = sumN 8 fun n => refs m n := by
    refine sumN_congr fun n hn => ?_
    split
    · rfl
    · rename_i hl; exact (dead_refs hc hn (by simpa using hl)).symm
  rw [e1]
  simp only [refs, refsRow]
  rw [sumN_comm (fun n d => sumN 4 fun s => b2n (leads m d s (n : Nat))) 8 3]
  refine (sumN_congr fun d hd => ?_)
  rw [sumN_comm (fun n s => b2n (leads m d s (n : Nat))) 8 4]
  exact sumN_congr fun s hs => (leads_sum hc hd hs).symm

/-! How often a data is held. -/
def hits (m : Img) (n p x : Nat) : Nat := b2n ((m.ino n).live && decide ((m.ino n).prt p = x))
def cnt (m : Img) (n r x : Nat) : Nat := (sumN n fun k => sumN 2 fun p => hits m k p x) + sumN r fun p => hits m n p x
theorem hits_le (m : Img) (n p x : Nat) : hits m n p x ≤ 1 := b2n_le _
theorem cnt_le (m : Img) (n r x : Nat) : cnt m n r x ≤ n * 2 + r := by
  have h1 := sumN_le (f := fun k => sumN 2 fun p => hits m k p x) (c := 2) (fun k => by have := sumN_le (fun p => hits_le m k p x) 2; simpa using this) n
  have h2 := sumN_le (fun p => hits_le m n p x) r
  unfold cnt; omega
theorem cnt_row (m : Img) (n x : Nat) : cnt m n 2 x = cnt m (n + 1) 0 x := by simp [cnt, sumN]
theorem cnt_dead (m : Img) (n x : Nat) (h : (m.ino n).live = false) : cnt m (n + 1) 0 x = cnt m n 0 x := by
  simp [cnt, sumN, hits, h, b2n]
theorem cnt_succ (m : Img) (n r x : Nat) : cnt m n (r + 1) x = cnt m n r x + hits m n r x := by simp only [cnt, sumN, Nat.add_assoc]
def cntV (m : Img) (n r : Nat) : Vector Int 9 := Vector.ofFn fun x : Fin 9 => (cnt m n r x : Int)
@[go_sem] theorem cntV_at (m : Img) (n r : Nat) {x : Nat} (hx : x < 9) : (cntV m n r)[x]'hx = (cnt m n r x : Int) := by simp [cntV]
theorem cntV_zero (m : Img) : cntV m 0 0 = Vector.replicate 9 0 := by
  ext x hx; simp [cntV, cnt, sumN]
theorem cntV_hit (m : Img) (n r : Nat) (hl : (m.ino n).live = true) {x : Nat} (hx : x < 9) (he : (m.ino n).prt r = x) {z : Int} (hz : z = cnt m n r x + 1) : (cntV m n r).set x z hx = cntV m n (r + 1) := by
  ext y hy
  rw [Vector.getElem_set, cntV_at, cntV_at, cnt_succ]
  by_cases e : x = y
  · subst e
    have : hits m n r x = 1 := by simp [hits, hl, he, b2n]
    rw [if_pos rfl, hz, this]; omega
  · have : hits m n r y = 0 := by
      have : ¬(x : Int) = (y : Int) := by omega
      simp [hits, he, b2n, this]
    rw [if_neg e, this]; omega
theorem cntV_miss (m : Img) (n r : Nat) (h : (m.ino n).prt r < 0) : cntV m n (r + 1) = cntV m n r := by
  ext y hy
  have : ¬(m.ino n).prt r = (y : Int) := by omega
  rw [cntV_at, cntV_at, cnt_succ]
  simp [hits, this, b2n]
theorem cntV_row (m : Img) (n : Nat) : cntV m n 2 = cntV m (n + 1) 0 := by
  ext y hy; rw [cntV_at, cntV_at, cnt_row]
theorem cntV_dead (m : Img) (n : Nat) (h : (m.ino n).live = false) : cntV m (n + 1) 0 = cntV m n 0 := by
  ext y hy; rw [cntV_at, cntV_at, cnt_dead m n y h]
theorem sumN_pos {f : Nat → Nat} : ∀ {n}, 0 < sumN n f → ∃ i, i < n ∧ 0 < f i
  | 0, h => by simp [sumN] at h
  | n + 1, h => by
    rw [sumN] at h
    by_cases e : 0 < f n
    · exact ⟨n, by omega, e⟩
    · obtain ⟨i, h1, h2⟩ := sumN_pos (n := n) (f := f) (by omega)
      exact ⟨i, by omega, h2⟩
theorem sumN_single {f : Nat → Nat} {j : Nat} (h : ∀ i, i ≠ j → f i = 0) : ∀ {n}, j < n → sumN n f = f j
  | 0, hj => by omega
  | n + 1, hj => by
    rw [sumN]
    by_cases e : j = n
    · subst e; rw [sumN_zeros fun i hi => h i (by omega)]; omega
    · rw [sumN_single h (by omega), h n (fun h => e h.symm)]; omega
theorem hits_iff {m : Img} {n p x : Nat} : 0 < hits m n p x ↔ (m.ino n).live = true ∧ (m.ino n).prt p = x := by
  simp only [hits, b2n]
  split
  · rename_i h; simpa using h
  · rename_i h; simpa using h
/-- In an image that may be mended no data is held twice. -/
theorem cnt_once {m : Img} (hc : check m = 0) (x : Nat) : cnt m 8 0 x = b2n (held m x) := by
  have ht := (check_parts hc).2.2
  have e0 : cnt m 8 0 x = sumN 8 fun k => sumN 2 fun p => hits m k p x := by simp [cnt, sumN]
  rw [e0]
  by_cases h : 0 < sumN 8 fun k => sumN 2 fun p => hits m k p x
  · obtain ⟨n, hn, h1⟩ := sumN_pos h
    obtain ⟨p, hp, h2⟩ := sumN_pos h1
    obtain ⟨hl, he⟩ := hits_iff.1 h2
    have uniq : ∀ k q, k < 8 → q < 2 → (k ≠ n ∨ q ≠ p) → hits m k q x = 0 := by
      intro k q hk hq hne
      rcases Nat.eq_zero_or_pos (hits m k q x) with h | h
      · exact h
      · obtain ⟨hl', he'⟩ := hits_iff.1 h
        have : twice m = true := twice_at hn hk (pairBad_iff.2 ⟨hl, hl', .inr ⟨p, q, hp, hq, by omega, by omega, by rw [he, he']⟩⟩)
        rw [ht] at this; exact absurd this (by simp)
    have hheld : held m x = true := by
      refine anyN_at hn ?_
      obtain rfl | rfl : p = 0 ∨ p = 1 := by omega
      all_goals simp [hl, he]
    rw [hheld]
    have s1 : sumN 2 (fun q => hits m n q x) = 1 := by
      have hv : hits m n p x = 1 := by have := hits_le m n p x; omega
      obtain rfl | rfl : p = 0 ∨ p = 1 := by omega
      · have := uniq n 1 hn (by omega) (.inr (by omega)); simp [sumN, hv, this]
      · have := uniq n 0 hn (by omega) (.inr (by omega)); simp [sumN, hv, this]
    have := sumN_upd (f := fun k => if k < 8 then sumN 2 fun q => hits m k q x else 0) (g := fun k => 0) (j := n) (n := 8) (fun k hk => by
      show (if k < 8 then sumN 2 fun q => hits m k q x else 0) = 0
      split
      · rename_i hk8; exact sumN_zeros fun q hq => uniq k q hk8 hq (.inl hk)
      · rfl) hn
    have e3 : (sumN 8 fun k => sumN 2 fun p => hits m k p x) = sumN 8 fun k => if k < 8 then sumN 2 fun q => hits m k q x else 0 := sumN_congr fun k hk => by simp [hk]
    rw [e3]
    rw [sumN_zeros (f := fun k => 0) (n := 8) fun _ _ => rfl] at this
    simp only [if_pos hn, s1] at this
    simp only [b2n, if_true]; omega
  · have h0 : (sumN 8 fun k => sumN 2 fun p => hits m k p x) = 0 := by omega
    rw [h0]
    have hheld : held m x = false := by
      unfold held
      rw [anyN_false]
      intro n hn
      rcases hb : ((m.ino n).live && (decide ((m.ino n).prt 0 = (x : Int)) || decide ((m.ino n).prt 1 = (x : Int)))) with _ | _
      · rfl
      · exfalso
        simp only [Bool.and_eq_true, Bool.or_eq_true, decide_eq_true_eq] at hb
        obtain ⟨hl, he⟩ := hb
        have g1 := sumN_ge (f := fun k => sumN 2 fun p => hits m k p x) hn
        have : 0 < sumN 2 fun p => hits m n p x := by
          rcases he with he | he
          · have h1 := hits_iff.2 ⟨hl, he⟩
            have h2 := sumN_ge (f := fun p => hits m n p x) (j := 0) (n := 2) (by omega)
            omega
          · have h1 := hits_iff.2 ⟨hl, he⟩
            have h2 := sumN_ge (f := fun p => hits m n p x) (j := 1) (n := 2) (by omega)
            omega
        omega
    rw [hheld]; rfl
theorem part_range {m : Img} (hc : check m = 0) {n p : Nat} (hn : n < 8) (hp : p < 2) (hl : (m.ino n).live = true) : (m.ino n).prt p < 9 := by
  have h := (check_parts hc).2.1 n hn
  simp only [inoFault, hl, Bool.true_eq_false, if_false] at h
  split at h
  · exact absurd h (by decide)
  · have := firstI_zero.1 h p hp
    simp only [partFault] at this
    split at this
    · exact absurd this (by decide)
    · omega
@[go_sem] theorem idxV_held (j : Id) (p : List Nat) (i : AV) : idxV 9 tI (.ptr j p tHeld) i = idxV 9 tI (.ptr j p (.arr 9 tI)) i := rfl
@[go_sem] theorem zero_held : tHeld.zero = encV (AV.int .i64) (Vector.replicate 9 0) := zero_encV (t := tI) rfl
section
variable {cx : Cx} {h : HP} {p p' : Id} {q q' : List Nat} {m m' : Img}
theorem ImageRefs_ok : Ok tbl cx Fn.eiderdownlaw_ImageRefs (St.enter [m.enc] h) fun v h' => v = .bool true ∧ h' = h := by
  rw [Ok_eq]
  simp (config := { maxSteps := 1000000 }) (disch := omega) only [go_sem]
  refine W_callp rfl ⟨rfl, rfl⟩ (by simp only [go_sem]; exact imageBegun_ok) ?_
  simp (config := { maxSteps := 1000000 }) (disch := omega) only [go_sem]
  refine W_callp rfl ⟨rfl, rfl⟩ (by simp only [go_sem]; exact Great_ok) ?_
  simp (config := { maxSteps := 1000000 }) (disch := omega) only [go_sem]
  cases hg : great m with
  | true => simp (config := { maxSteps := 1000000 }) (disch := omega) only [go_sem]
  | false =>
    have hsm := great_small hg
    simp (config := { maxSteps := 1000000 }) (disch := omega) only [go_sem]
    refine W_callp rfl ⟨rfl, rfl⟩ (by simp only [go_sem]; exact Check_ok (m := m) hsm (below_stk _ _) (by simp only [go_sem, HP.push_rd_own])) ?_
    simp (config := { maxSteps := 1000000 }) (disch := omega) only [go_sem]
    by_cases hc : check m = 0
    · simp (config := { maxSteps := 1000000 }) (disch := omega) only [go_sem, hc]
      refine W_for 3 (fun d => ⟨[(1, .ptr (.stk cx.lvl 1) [] tImage), (3, .int .i64 (names m d)), (4, .int .i64 0), (5, .int .i64 d)], [(1, ⟨tImage, m.enc⟩)], h⟩) (by simp only [go_sem] <;> rfl) fun d hd ih => ?_
      have hD := names_le m d
      by_cases hlt : d < 3
      · simp (config := { maxSteps := 1000000 }) (disch := omega) only [go_sem, hlt]
        refine W_for 4 (fun s => ⟨[(1, .ptr (.stk cx.lvl 1) [] tImage), (3, .int .i64 (names m d + namesRow m d s : Nat)), (4, .int .i64 0), (5, .int .i64 d), (6, .int .i64 s)], [(1, ⟨tImage, m.enc⟩)], h⟩) (by simp only [go_sem] <;> rfl) fun s hs ih' => ?_
        have hR := namesRow_le m d s
        have e : namesRow m d (s + 1) = namesRow m d s + b2n (named m d s) := rfl
        by_cases hlt' : s < 4
        · simp (config := { maxSteps := 1000000 }) (disch := omega) only [go_sem, hlt, hlt']
          by_cases c1 : (m.ent d s).name = ⟨#[]⟩
          · simp (config := { maxSteps := 1000000 }) (disch := omega) only [go_sem, c1]
            refine ih' _ hlt' ?_
            simp only [go_sem, e, named, c1, b2n, Int.add_assoc, Nat.add_zero]
          · simp (config := { maxSteps := 1000000 }) (disch := omega) only [go_sem, c1]
            refine ih' _ hlt' ?_
            simp only [go_sem, e, named, c1, b2n, Int.add_assoc, Nat.add_zero]
        · obtain rfl : s = 4 := by omega
          simp (config := { maxSteps := 1000000 }) (disch := omega) only [go_sem]
          refine ih _ hlt ?_
          have e : names m (d + 1) = names m d + namesRow m d 4 := rfl
          simp only [go_sem, e]
      · obtain rfl : d = 3 := by omega
        simp (config := { maxSteps := 1000000 }) (disch := omega) only [go_sem]
        refine W_for 8 (fun n => ⟨[(1, .ptr (.stk cx.lvl 1) [] tImage), (3, .int .i64 (names m 3)), (4, .int .i64 (refsTo m n)), (7, .ptr (.stk cx.lvl 7) [] tHeld), (8, .int .i64 n)], [(1, ⟨tImage, m.enc⟩), (7, ⟨tHeld, encV (AV.int .i64) (cntV m n 0)⟩)], h⟩) (by simp only [go_sem, cntV_zero] <;> rfl) fun n hn ih => ?_
        have hT := refsTo_le m n
        by_cases hlt : n < 8
        · simp (config := { maxSteps := 1000000 }) (disch := omega) only [go_sem, hlt]
          refine W_callp rfl ⟨rfl, rfl⟩ (by simp only [go_sem]; exact Refs_ok (m := m) (below_stk _ _) (by simp only [go_sem, HP.push_rd_own])) ?_
          have hr := refs_le m n
          cases hl : (m.ino n).live with
          | false =>
            have e1 : refsTo m (n + 1) = refsTo m n := by simp [refsTo, sumN, hl]
            simp (config := { maxSteps := 1000000 }) (disch := omega) only [go_sem, hl, hlt, dead_refs hc hlt hl]
            refine ih _ hlt ?_
            simp only [go_sem, e1, cntV_dead m n hl]
          | true =>
            have e1 : refsTo m (n + 1) = refsTo m n + refs m n := by simp [refsTo, sumN, hl]
            simp (config := { maxSteps := 1000000 }) (disch := omega) only [go_sem, hl, hlt]
            refine W_for 2 (fun r => ⟨[(1, .ptr (.stk cx.lvl 1) [] tImage), (3, .int .i64 (names m 3)), (4, .int .i64 (refsTo m (n + 1))), (7, .ptr (.stk cx.lvl 7) [] tHeld), (8, .int .i64 n), (10, .int .i64 r)], [(1, ⟨tImage, m.enc⟩), (7, ⟨tHeld, encV (AV.int .i64) (cntV m n r)⟩)], h⟩) (by simp only [go_sem, e1] <;> rfl) fun r hr' ih' => ?_
            by_cases hlt' : r < 2
            · have hpr := part_range hc hlt hlt' hl
              simp (config := { maxSteps := 1000000 }) (disch := omega) only [go_sem, hlt, hlt']
              by_cases c1 : 0 ≤ (m.ino n).prt r
              · have hcl := cnt_le m n r ((m.ino n).prt r).toNat
                simp (config := { maxSteps := 1000000 }) (disch := omega) only [go_sem, c1]
                refine ih' _ hlt' ?_
                simp only [go_sem]
                rw [cntV_hit m n r hl (by omega) (by omega) rfl]
              · simp (config := { maxSteps := 1000000 }) (disch := omega) only [go_sem, c1]
                refine ih' _ hlt' ?_
                simp only [go_sem, cntV_miss m n r (by omega)]
            · obtain rfl : r = 2 := by omega
              simp (config := { maxSteps := 1000000 }) (disch := omega) only [go_sem]
              refine ih _ hlt ?_
              simp only [go_sem, cntV_row]
        · obtain rfl : n = 8 := by omega
          simp (config := { maxSteps := 1000000 }) (disch := omega) only [go_sem]
          refine W_for 9 (fun x => ⟨[(1, .ptr (.stk cx.lvl 1) [] tImage), (3, .int .i64 (names m 3)), (4, .int .i64 (refsTo m 8)), (7, .ptr (.stk cx.lvl 7) [] tHeld), (12, .int .i64 x)], [(1, ⟨tImage, m.enc⟩), (7, ⟨tHeld, encV (AV.int .i64) (cntV m 8 0)⟩)], h⟩) (by simp only [go_sem] <;> rfl) fun x hx ih => ?_
          by_cases hlt : x < 9
          · have hx := cnt_once hc x
            cases hh : held m x with
            | false =>
              have hx : cnt m 8 0 x = 0 := by rw [hx, hh]; rfl
              simp (config := { maxSteps := 1000000 }) (disch := omega) only [go_sem, hlt, hx]
              refine W_callp rfl ⟨rfl, rfl⟩ (by simp only [go_sem]; exact Holds_ok (m := m) (below_stk _ _) (by simp only [go_sem, HP.push_rd_own])) ?_
              simp (config := { maxSteps := 1000000 }) (disch := omega) only [go_sem, hlt, hx, hh]
              refine ih _ hlt ?_
              simp only [go_sem]
            | true =>
              have hx : cnt m 8 0 x = 1 := by rw [hx, hh]; rfl
              simp (config := { maxSteps := 1000000 }) (disch := omega) only [go_sem, hlt, hx]
              refine W_callp rfl ⟨rfl, rfl⟩ (by simp only [go_sem]; exact Holds_ok (m := m) (below_stk _ _) (by simp only [go_sem, HP.push_rd_own])) ?_
              simp (config := { maxSteps := 1000000 }) (disch := omega) only [go_sem, hlt, hx, hh]
              refine ih _ hlt ?_
              simp only [go_sem]
          · obtain rfl : x = 9 := by omega
            simp (config := { maxSteps := 1000000 }) (disch := omega) only [go_sem, names_refs hc]
    · simp (config := { maxSteps := 1000000 }) (disch := omega) only [go_sem, hc]
end
end Go.Mini
