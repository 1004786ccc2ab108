/- A part of the proof: the statement LifeKeeps, over the model of its code. -/
import Derived.Test.YtpkndgkaecamlacLbS

namespace Go.Mini
set_option linter.unusedSimpArgs false
set_option linter.unusedVariables false
set_option maxHeartbeats 4000000
set_option maxRecDepth 100000
section
variable {cx : Cx} {h : HP} {p p' : Id} {q q' : List Nat} {m m' : Img}
def greatRow (m : Img) (d k : Nat) : Nat := sumN k fun s => min (m.ent d s).name.size 10000
def greatDat (m : Img) (k : Nat) : Nat := sumN k fun x => min (m.dat x).text.size 10000
def greatDir (m : Img) (k : Nat) : Nat := sumN k fun d => greatRow m d 4
def great (m : Img) : Bool := decide (3000 < greatDir m 3 + greatDat m 9)
end
end Go.Mini
namespace Go.Mini
set_option linter.unusedSimpArgs false
set_option linter.unusedVariables false
set_option maxHeartbeats 4000000
set_option maxRecDepth 100000


def namedF (F : Fl) (n : Nat) : Bool := (F.disk.ino n).live && decide ((F.disk.ino n).stamp = (F.now.ino n).stamp) && decide (0 < refs F.disk n)
def safeL (F : Fl) : Nat → List Int
  | 0 => []
  | n + 1 => if (F.now.ino n).live = true ∧ namedF F n = true then safeL F n ++ [(F.now.ino n).stamp] else safeL F n
theorem mem_safeL {F : Fl} {x : Int} : ∀ {n}, x ∈ safeL F n ↔ ∃ k, k < n ∧ (F.now.ino k).live = true ∧ namedF F k = true ∧ (F.now.ino k).stamp = x
  | 0 => by simp [safeL]
  | n + 1 => by
    unfold safeL
    have ih := @mem_safeL F x n
    split
    · rename_i h
      rw [List.mem_append, ih, List.mem_singleton]
      constructor
      · rintro (⟨k, h1, h2⟩ | rfl)
        · exact ⟨k, by omega, h2⟩
        · exact ⟨n, by omega, h.1, h.2, rfl⟩
      · rintro ⟨k, h1, h2, h3, h4⟩
        by_cases e : k = n
        · subst e; exact .inr h4.symm
        · exact .inl ⟨k, by omega, h2, h3, h4⟩
    · rename_i h
      rw [ih]
      constructor
      · rintro ⟨k, h1, h2⟩; exact ⟨k, by omega, h2⟩
      · rintro ⟨k, h1, h2, h3, h4⟩
        by_cases e : k = n
        · subst e; exact absurd ⟨h2, h3⟩ h
        · exact ⟨k, by omega, h2, h3, h4⟩
theorem safeL_len (F : Fl) : ∀ n, (safeL F n).length ≤ n
  | 0 => Nat.le_refl _
  | n + 1 => by
    have := safeL_len F n
    unfold safeL
    split
    · simp; omega
    · omega
theorem named_write {F : Fl} (h : Inv F) {n : Nat} (hn : n < 8) (hl : (F.now.ino n).live = true) (hd : namedF F n = true) (x : Int) : namedF { F with disk := (writeAs F.now F.disk x).1 } n = true := by
  simp only [namedF, Bool.and_eq_true, decide_eq_true_eq] at hd ⊢
  obtain ⟨⟨h1, h2⟩, h3⟩ := hd
  have hr := ((exact_parts h.ex).2 n hn hl).1
  refine ⟨?_, (write_last F.now F.disk x).1 n h3 (by omega)⟩
  obtain ⟨m, hm, e⟩ | ⟨m, hm, e⟩ | ⟨m, hm, e⟩ | e := blockOf_cases x
  · rw [writeAs_i e]
    dsimp only
    rw [wrInodes_ino' _ _ m hm]
    split
    · have hl' : (inodeAs F.now F.disk n).live = true := by unfold inodeAs; rw [if_pos hl]; exact hl
      rcases inodeAs_live_cases hl' with ⟨_, a2, _⟩ | ⟨a1, _⟩
      · exact ⟨hl', a2⟩
      · rw [hl] at a1; exact absurd a1 (by simp)
    · exact ⟨h1, h2⟩
  · rw [writeAs_d e]
    dsimp only
    rw [(wrDir_ok F.now F.disk hm 4 (Nat.le_refl _)).1]
    exact ⟨h1, h2⟩
  · rw [writeAs_a e]; exact ⟨h1, h2⟩
  · rw [writeAs_n e]; exact ⟨h1, h2⟩
theorem named_down {F : Fl} (h : Inv F) {n : Nat} (hn : n < 8) (hl : (F.now.ino n).live = true) (hd : namedF F n = true) : ∀ k, namedF { F with disk := wrDown F.now F.disk k } n = true
  | 0 => hd
  | k + 1 => named_write (h.wrDown k) hn hl (named_down h hn hl hd k) _
theorem named_sync {F : Fl} (h : Inv F) {n : Nat} (hn : n < 8) (hl : (F.now.ino n).live = true) (hd : namedF F n = true) : ∀ k, namedF { F with disk := syncD F.now F.disk k } n = true
  | 0 => hd
  | k + 1 => named_down (h.syncD k) hn hl (named_sync h hn hl hd k) 14
theorem doF_live {F : Fl} (h : Inv F) (hs : F.stamp < 4611686018427387904) (x : SStep) : ∀ j, j < 8 → ((doF F x).now.ino j).live = true → ((F.now.ino j).live = true ∧ ((doF F x).now.ino j).stamp = (F.now.ino j).stamp) ∨ ((doF F x).now.ino j).stamp = F.stamp + 1 := by
  have add : ∀ (a : Img) (d k n : Nat) (nm : Str) j, j < 8 → ((addName a d k nm n).ino j).live = (a.ino j).live ∧ ((addName a d k nm n).ino j).stamp = (a.ino j).stamp := fun a d k n nm j hj => by
    simp only [addName, ino_setIno, ino_setEnt]
    split
    · rename_i e; rw [← e.1]; exact ⟨rfl, rfl⟩
    · exact ⟨rfl, rfl⟩
  have ent : ∀ (a b : Img) d nm n j, j < 8 → ((enterA a b d nm n).ino j).live = (a.ino j).live ∧ ((enterA a b d nm n).ino j).stamp = (a.ino j).stamp := fun a b d nm n j hj => by
    unfold enterA; split
    · exact add _ _ _ _ _ j hj
    · exact ⟨rfl, rfl⟩
  have drop : ∀ (a : Img) (d s : Nat) j, j < 8 → ((dropName a d s).ino j).live = true → (a.ino j).live = true ∧ ((dropName a d s).ino j).stamp = (a.ino j).stamp := fun a d s j hj hl => by
    unfold dropName at hl ⊢
    dsimp only at hl ⊢
    split at hl
    · rename_i q; rw [if_pos q]
      rw [ino_setIno, ino_setEnt] at hl ⊢
      split at hl
      · exact absurd hl (by decide)
      · rename_i q'; rw [if_neg q']; exact ⟨hl, rfl⟩
    · rename_i q; rw [if_neg q]
      rw [ino_setIno, ino_setEnt] at hl ⊢
      split at hl
      · rename_i q'; rw [if_pos q']; rw [q'.1] at hl ⊢; exact ⟨hl, rfl⟩
      · rename_i q'; rw [if_neg q']; exact ⟨hl, rfl⟩
  intro j hj hl
  unfold doF at hl ⊢
  split at hl
  · rename_i c; rw [if_pos c]; exact .inl ⟨hl, rfl⟩
  rename_i c; rw [if_neg c]
  split at hl
  · rename_i c1; rw [if_pos c1]
    unfold makeF at hl ⊢
    split at hl
    · rename_i c2; rw [if_pos c2]
      dsimp only at hl ⊢
      rw [(add _ _ _ _ _ j hj).1] at hl
      rw [(add _ _ _ _ _ j hj).2]
      rw [ino_setIno] at hl ⊢
      split at hl
      · rename_i q; rw [if_pos q]
        right
        exact wrap64 (by have := h.s0; omega) (by omega)
      · rename_i q; rw [if_neg q]; exact .inl ⟨hl, rfl⟩
    · rename_i c2; rw [if_neg c2]; exact .inl ⟨hl, rfl⟩
  rename_i c1; rw [if_neg c1]
  dsimp only at hl ⊢
  left
  split at hl
  · rename_i c2; rw [if_pos c2]; dsimp only at hl ⊢
    rw [(ent _ _ _ _ _ j hj).1] at hl; exact ⟨hl, (ent _ _ _ _ _ j hj).2⟩
  rename_i c2; rw [if_neg c2]
  split at hl
  · rename_i c4; rw [if_pos c4]; dsimp only at hl ⊢
    obtain ⟨a1, a2⟩ := drop _ _ _ j hj hl
    rw [(ent _ _ _ _ _ j hj).1] at a1; rw [(ent _ _ _ _ _ j hj).2] at a2
    exact ⟨a1, a2⟩
  rename_i c4; rw [if_neg c4]
  split at hl
  · rename_i c3; rw [if_pos c3]; exact drop _ _ _ j hj hl
  rename_i c3; rw [if_neg c3]
  split at hl
  · rename_i c5; rw [if_pos c5]
    dsimp only at hl ⊢
    unfold putA at hl ⊢
    split at hl
    · rename_i q; rw [if_pos q]
      split at hl
      · rename_i q2; rw [if_pos q2]; exact ⟨hl, rfl⟩
      · rename_i q2; rw [if_neg q2]
        rw [ino_setDat, ino_setIno] at hl ⊢
        split at hl
        · rename_i q3; rw [if_pos q3]; rw [q3.1] at hl ⊢; exact ⟨hl, rfl⟩
        · rename_i q3; rw [if_neg q3]; exact ⟨hl, rfl⟩
    · rename_i q; rw [if_neg q]; exact ⟨hl, rfl⟩
  rename_i c5; rw [if_neg c5]
  dsimp only at hl ⊢
  rw [ino_setIno] at hl ⊢
  split at hl
  · rename_i q3; rw [if_pos q3]; rw [q3.1] at hl ⊢; exact ⟨hl, rfl⟩
  · rename_i q3; rw [if_neg q3]; exact ⟨hl, rfl⟩

theorem keeps {L : Lf} (h : Inv L.fl) (hs : L.fl.stamp < 4611686018427387904) (x : SStep) {n : Nat} (hn : n < 8) (hl : ((lifeF L x).fl.now.ino n).live = true) (hm : ((lifeF L x).fl.now.ino n).stamp ∈ safeL L.fl 8) : namedF (lifeF L x).fl n = true := by
  obtain ⟨j, j8, l1, l2, l3⟩ := mem_safeL.1 hm
  have cn := Ck.of h.cn
  have same : ∀ k, k < 8 → (L.fl.now.ino k).live = true → (L.fl.now.ino k).stamp = (L.fl.now.ino j).stamp → k = j := fun k hk h1 h2 => by
    by_cases e : k = j
    · exact e
    · exact absurd h2 (cn.st k j hk j8 e h1 l1)
  unfold lifeF at hl l3 ⊢
  split at hl
  · rename_i c; rw [if_pos c] at l3 ⊢
    dsimp only at hl l3 ⊢
    obtain rfl := same n hn hl l3.symm
    exact named_write h hn hl l2 _
  rename_i c7; rw [if_neg c7] at l3 ⊢
  split at hl
  · rename_i c; rw [if_pos c] at l3 ⊢
    dsimp only at hl l3 ⊢
    obtain rfl := same n hn hl l3.symm
    exact named_sync h hn hl l2 _
  rename_i c8; rw [if_neg c8] at l3 ⊢
  split at hl
  · rename_i c; rw [if_pos c] at l3 ⊢
    unfold crashF at hl l3 ⊢
    rw [if_pos h.ck] at hl l3 ⊢
    dsimp only at hl l3 ⊢
    have he := exact_parts (mended_exact h.ck)
    simp only [namedF, Bool.and_eq_true, decide_eq_true_eq, and_true]
    exact ⟨hl, by have := (he.2 n hn hl).1; omega⟩
  rename_i c9; rw [if_neg c9] at l3 ⊢
  dsimp only at hl l3 ⊢
  rcases doF_live h hs x n hn hl with ⟨a1, a2⟩ | a
  · rw [a2] at l3
    obtain rfl := same n hn a1 l3.symm
    simp only [namedF, doF_disk, a2] at l2 ⊢
    exact l2
  · have := h.sn j j8 l1
    rw [a] at l3; omega

theorem keeps_crash {L : Lf} (h : Inv L.fl) {x : SStep} (hx : x.kind = 9) {y : Int} (hy : y ∈ safeL L.fl 8) : y ∈ safeL (lifeF L x).fl 8 := by
  obtain ⟨j, j8, l1, l2, l3⟩ := mem_safeL.1 hy
  simp only [namedF, Bool.and_eq_true, decide_eq_true_eq] at l2
  obtain ⟨⟨h1, h2⟩, h3⟩ := l2
  have e : lifeF L x = crashF L := by simp [lifeF, hx]
  rw [e]
  unfold crashF
  rw [if_pos h.ck]
  have hm : (mendIno L.fl.disk j).live = true := mendIno_live.2 ⟨h1, by omega⟩
  have hi : ((mended L.fl.disk).ino j).live = true := by rw [mended_ino _ j8]; exact hm
  have hst : ((mended L.fl.disk).ino j).stamp = (L.fl.disk.ino j).stamp := by rw [mended_ino _ j8, mendIno_of hm]
  refine mem_safeL.2 ⟨j, j8, hi, ?_, by dsimp only; rw [hst, h2]; exact l3⟩
  simp only [namedF, Bool.and_eq_true, decide_eq_true_eq, and_true]
  exact ⟨hi, by rw [mended_refs]; exact h3⟩


def SlJ (h0 h : HP) (v : AV) (l : List Int) : Prop := (v = .nilsl ∧ l = []) ∨ ∃ q, v = .sl (.obj q) 0 l.length ∧ h0.next ≤ q ∧ q < h.next ∧ h.look (.obj q) = some ⟨.arr l.length tI, encL l⟩
theorem SlJ.same {h0 h h' : HP} {v : AV} {l : List Int} (a : SlJ h0 h v l) (b : Fr h h' []) : SlJ h0 h' v l := by
  rcases a with a | ⟨q, h1, h2, h3, h4⟩
  · exact .inl a
  · exact .inr ⟨q, h1, h2, Nat.lt_of_lt_of_le h3 b.next, b.look h3 (by simp) h4⟩
theorem SlJ.push {h0 h : HP} {v : AV} {l : List Int} {n : Nat} {o : Own} (a : SlJ h0 h v l) : SlJ h0 (h.push n o) v l := a
theorem SlJ.from {h0 h1 h : HP} {v : AV} {l : List Int} (a : SlJ h1 h v l) (e : h0.next ≤ h1.next) : SlJ h0 h v l := by
  rcases a with a | ⟨q, h1, h2, h3, h4⟩
  · exact .inl a
  · exact .inr ⟨q, h1, by omega, h3, h4⟩
theorem SlJ.len {h0 h : HP} {v : AV} {l : List Int} (a : SlJ h0 h v l) : lenV false v = some (.int .i64 l.length) := by
  rcases a with ⟨rfl, rfl⟩ | ⟨i, rfl, _⟩ <;> rfl
theorem SlJ.fg {h0 h : HP} {v : AV} {l : List Int} (a : SlJ h0 h v l) (x y : Nat) : Go.Mini.fg v (.stk x y) = v := by
  rcases a with ⟨rfl, rfl⟩ | ⟨i, rfl, _⟩ <;> simp only [go_sem]
theorem SlJ.ld {h0 h : HP} {v : AV} {l : List Int} (a : SlJ h0 h v l) (x y : Nat) : v.leads (.stk x y) = false := by
  rcases a with ⟨rfl, rfl⟩ | ⟨i, rfl, _⟩ <;> simp only [go_sem]
def num (l : List Int) (i : Nat) : Int := l.getD i 0
theorem encL_num (l : List Int) {i : Nat} (h : i < l.length) : (encL l).at [i] = some (.int .i64 (num l i)) := by
  rw [encL_at l h]; simp [num, h]
section
variable {T : Nat → Option MFun} {cx : Cx} {k : List Item} {kill : List Nat} {r : List MOp} {sl : Slots} {own : Own} {h : HP} {Q : St → Prop}
def WAi (T : Nat → Option MFun) (cx : Cx) (x : AV) (add : Option (List AV)) (d : Nat) (r : List MOp) (kill : List Nat) (k : List Item) (sl : Slots) (own : Own) (h : HP) (Q : St → Prop) : Prop :=
  onO add fun add => onO (evAppend (St.look cx ⟨sl, own, h⟩) tI x add) fun e => onO (applyEff cx (some d) true ⟨sl, own, h⟩ e) fun p => W T cx (.ops r kill :: k) (p.2.setd (some d) p.1) Q
@[go_sem] theorem W_appendI {d : Nat} {x y : Opd} : W T cx (.ops (⟨some d, .append true tI x y, none⟩ :: r) kill :: k) ⟨sl, own, h⟩ Q = WAi T cx (St.opd ⟨sl, own, h⟩ x) (elems (St.look cx ⟨sl, own, h⟩) tI (St.opd ⟨sl, own, h⟩ y)) d r kill k sl own h Q := by
  rw [W_op rfl, evOp]
  simp only [evK, WAi]
  cases elems (St.look cx ⟨sl, own, h⟩) tI (St.opd ⟨sl, own, h⟩ y) with
  | none => rfl
  | some add =>
    simp only [onO_some]
    cases evAppend (St.look cx ⟨sl, own, h⟩) tI (St.opd ⟨sl, own, h⟩ x) add <;> rfl
@[go_sem] theorem WAi_nil {n : Int} {d : Nat} : WAi T cx .nilsl (some [.int .i64 n]) d r kill k sl own h Q =
    W T cx (.ops r kill :: k) ⟨sl.set d (.sl (.obj h.next) 0 1), own, h.nw (.arr 1 tI) (encL [n])⟩ Q := by
  have hf := encL_fits [n] (n := 1) rfl
  simp only [WAi, onO_some, evAppend, List.length_cons, List.length_nil, Nat.zero_add]
  rw [if_neg (by omega), if_pos ⟨hf, by omega⟩]
  rfl
theorem WAi_grow {d q : Nat} {n : Int} {l : List Int} (hl : cx.prot.lets (.obj q) = true) (hq : h.look (.obj q) = some ⟨.arr l.length tI, encL l⟩) (hm : l.length + 1 ≤ 1048576) : WAi T cx (.sl (.obj q) 0 l.length) (some [.int .i64 n]) d r kill k sl own h Q =
    W T cx (.ops r kill :: k) ⟨sl.set d (.sl (.obj h.next) 0 (l ++ [n]).length), own, (h.dl q).nw (.arr (l ++ [n]).length tI) (encL (l ++ [n]))⟩ Q := by
  have hf := encL_fits (l ++ [n]) (n := l.length + 1) (by simp)
  have e : List.map (AV.int .i64) (l ++ [n]) = (List.map (AV.int .i64) l).take l.length ++ [.int .i64 n] := by
    rw [List.map_append, List.take_of_length_le (by simp)]; rfl
  have el : (l ++ [n]).length = l.length + 1 := by simp
  simp only [encL, e] at hf ⊢
  simp only [WAi, onO_some, evAppend, look_obj, hq, encL_toList, List.length_map, List.length_cons, List.length_nil, Nat.zero_add, List.drop_zero, if_true]
  rw [if_neg (by omega), if_pos (by omega), if_pos ⟨hf, hm⟩]
  simp only [onO_some, applyEff, St.drop, Id.own, hl, if_true, Option.map_some, el]
  rfl
end
section
variable {cx : Cx} {h h0 : HP}
theorem In_ok {v : AV} {l : List Int} {x : Int} (hv : SlJ h0 h v l) (hl : l.length ≤ 1000000) : Ok tblE cx Fn.eiderdownref_In (St.enter [v, .int .i64 x] h) fun y h' => y = .bool (decide (x ∈ l)) ∧ h' = h := by
  have h1 := hv.len
  rw [Ok_eq]
  simp (config := { maxSteps := 1000000 }) (disch := omega) only [go_sem]
  refine W_forP l.length (fun k => ⟨[(0, v), (1, .int .i64 x), (5, .int .i64 k)], [], h⟩) (fun k => ∀ i, i < k → ¬num l i = x) (by simp only [go_sem] <;> rfl) (fun i hi => by omega) fun k hk hp ih => ?_
  by_cases hlt : k < l.length
  · rcases hv with ⟨rfl, rfl⟩ | ⟨q, rfl, _, _, hq⟩
    · simp at hlt
    simp (config := { maxSteps := 1000000 }) (disch := omega) only [go_sem, hlt, hq, encL_num l hlt]
    by_cases c : num l k = x
    · have : x ∈ l := by rw [← c]; simp [num, hlt]
      simp (config := { maxSteps := 1000000 }) (disch := omega) only [go_sem, c, this]
    · simp (config := { maxSteps := 1000000 }) (disch := omega) only [go_sem, c]
      refine ih _ hlt (step_all hp c) ?_
      simp only [go_sem]
  · obtain rfl : k = l.length := by omega
    simp (config := { maxSteps := 1000000 }) (disch := omega) only [go_sem, h1]
    have : ¬x ∈ l := fun h => by
      obtain ⟨i, hi, e⟩ := List.mem_iff_getElem.1 h
      exact hp i hi (by simp [num, hi, e])
    simp (config := { maxSteps := 1000000 }) (disch := omega) only [go_sem, this]
end
end Go.Mini

namespace Go.Mini
set_option linter.unusedSimpArgs false
set_option linter.unusedVariables false
set_option maxHeartbeats 4000000
set_option maxRecDepth 100000
section
variable {cx : Cx} {h h0 : HP}
variable {v : AV} {l : List SStep}
def safeS (l : List SStep) : Nat → List Int
  | 0 => []
  | k + 1 => safeL (lifeRun .new l (k + 1)).fl 8
def LifeK (h0 h : HP) (p : Nat) (L : Lf) (w : AV) (ys : List Int) : Prop := ∃ f c, LifeAt h p f c L ∧ (h0.next ≤ p ∧ h0.next ≤ f ∧ h0.next ≤ c) ∧ Fr h0 h [] ∧
  ((w = .nilsl ∧ ys = []) ∨ ∃ q, w = .sl (.obj q) 0 ys.length ∧ h0.next ≤ q ∧ q < h.next ∧ (q ≠ p ∧ q ≠ f ∧ q ≠ c) ∧ h.look (.obj q) = some ⟨.arr ys.length tI, encL ys⟩)
theorem LifeK.n {h0 h : HP} {p : Nat} {L : Lf} {w : AV} {ys : List Int} (a : LifeK h0 h p L w ys) : LifeN h0 h p L := by
  obtain ⟨f, c, hA, hb, hF, _⟩ := a
  exact ⟨f, c, hA, hb, hF⟩
theorem LifeK.s {h0 h : HP} {p : Nat} {L : Lf} {w : AV} {ys : List Int} (a : LifeK h0 h p L w ys) : SlJ h0 h w ys := by
  obtain ⟨f, c, hA, hb, hF, h1 | ⟨q, h1, h2, h3, _, h5⟩⟩ := a
  · exact .inl h1
  · exact .inr ⟨q, h1, h2, h3, h5⟩
theorem LifeK.nil {h0 h : HP} {p : Nat} {L : Lf} (a : LifeN h0 h p L) : LifeK h0 h p L .nilsl [] := by
  obtain ⟨f, c, hA, hb, hF⟩ := a
  exact ⟨f, c, hA, hb, hF, .inl ⟨rfl, rfl⟩⟩
theorem LifeK.mk {h0 h h' : HP} {p : Nat} {L : Lf} {w : AV} {ys : List Int} (a : LifeN h0 h p L) (b : Fr h h' []) (s : SlJ h h' w ys) : LifeK h0 h' p L w ys := by
  have a' := a.same b
  obtain ⟨f, c, hA, _, hF⟩ := a
  have hn := hF.next
  obtain ⟨f', c', hA', hb', hF'⟩ := a'
  have e1 : f' = f := by
    have h1 := hA'.li
    rw [b.look hA.pn (by simp) hA.li] at h1
    simp [encLi] at h1
    exact h1.symm
  subst e1
  have e2 : c' = c := by
    have h1 := hA'.fi
    rw [b.look hA.fn (by simp) hA.fi] at h1
    simp [encF] at h1
    exact h1.symm
  subst e2
  refine ⟨f', c', hA', hb', hF', ?_⟩
  rcases s with h1 | ⟨q, h1, h2, h3, h5⟩
  · exact .inl h1
  · have := hA.pn; have := hA.fn; have := hA.cn
    exact .inr ⟨q, h1, by omega, h3, ⟨by omega, by omega, by omega⟩, h5⟩
theorem LStep_K {cx : Cx} {k : List Item} {kill : List Nat} {r : List MOp} {sl : Slots} {own : Own} {h h0 : HP} {Q : St → Prop} {L : Lf} {p : Nat} {w : AV} {ys : List Int} {x : SStep}
    {f : Nat} {args : List Opd} {d : Option Nat} (hl : ∀ n, cx.prot.lets (.obj n) = true) (hf : tblE f = some Fn.life_Life_Step) (ha : args.map (St.opd ⟨sl, own, h⟩) = [.ptr (.obj p) [] tLife, x.enc])
    (hK : LifeK h0 h p L w ys) (hi : Inv0 L.fl) (hx : x.ok)
    (hq : ∀ h1, LifeK h0 h1 p (lifeF L x) w ys → W tblE cx (.ops r kill :: k) (St.setd ⟨sl, own, h1⟩ d (.int .i64 (lifeC L x))) Q) :
    W tblE cx (.ops (⟨d, .call false [] f args, none⟩ :: r) kill :: k) ⟨sl, own, h⟩ Q := by
  obtain ⟨f', c', hA, hb, hF, hs⟩ := hK
  have hlen : args.length = 2 := by have := congrArg List.length ha; simpa using this
  refine W_callF (S := [p, f', c']) (R := fun v h' => v = .int .i64 (lifeC L x) ∧ LifeTo h h' p f' c' (lifeF L x)) hf ⟨by rw [hlen], rfl⟩ ?_ (fun v h1 a => ⟨a.1, a.2.pop (h := h) (l' := 0) (o' := [])⟩) fun v h1 hF1 hR => ?_
  · rw [ha]
    refine (LStep_ok (by exact hl) hA.push hi hx.name hx.to hx.text).mono fun v h' e => ?_
    exact ⟨e.1, e.2.1, e.2.2⟩
  · obtain ⟨rfl, f2, c2, hA2, e2⟩ := hR
    refine hq h1 ⟨f2, c2, hA2, ?_, hF.since hF1 (by simp; omega), ?_⟩
    · have := hF.next
      refine ⟨hb.1, ?_, ?_⟩ <;> rcases e2 with ⟨rfl, rfl⟩ | ⟨e2, e3⟩ <;> omega
    · rcases hs with h1 | ⟨q, h2, h3, h4, ⟨h5, h6, h7⟩, h8⟩
      · exact .inl h1
      · refine .inr ⟨q, h2, h3, Nat.lt_of_lt_of_le h4 hF1.next, ⟨h5, ?_, ?_⟩, hF1.look h4 (by simp [h5, h6, h7]) h8⟩ <;> rcases e2 with ⟨rfl, rfl⟩ | ⟨e2, e3⟩ <;> omega
theorem safeS_mem {l : List SStep} {k : Nat} {y : Int} (h : y ∈ safeS l k) : y ∈ safeL (lifeRun .new l k).fl 8 := by
  cases k with
  | zero => simp [safeS] at h
  | succ k => exact h
theorem safeS_len (l : List SStep) (k : Nat) : (safeS l k).length ≤ 8 := by
  cases k with
  | zero => simp [safeS]
  | succ k => exact safeL_len _ _
theorem LifeKeeps_ok (hl : ∀ n, cx.prot.lets (.obj n) = true) (hv : StepsV h v l) (hsz : ∀ k, (stp l k).ok) : Ok tblE cx Fn.eiderdownlaw_LifeKeeps (St.enter [v] h) fun v h' => v = .bool true := by
  rw [Ok_eq]
  have hvlen := hv.len
  have hvfg := hv.fg
  have hvld := hv.ld
  simp (config := { maxSteps := 1000000 }) (disch := omega) only [go_sem]
  refine W_callF (S := []) (R := fun v _ => v = .bool true) rfl ⟨rfl, rfl⟩ (by simp only [go_sem]; exact lifeBegun_ok (by exact hl)) (fun _ _ e => e) ?_
  rintro _ h1 hF1 rfl
  simp (config := { maxSteps := 1000000 }) (disch := omega) only [go_sem, hvlen, hvfg, hvld]
  refine W_callhv (P := fun x => ∃ b, x = .bool b ∧ (b = false → l.length ≤ 200)) h1 rfl ⟨rfl, rfl⟩ rfl (by simp only [go_sem]; exact greatSteps_ok ((hv.to hF1.arg).push)) ?_
  rintro _ ⟨great, rfl, hgr⟩
  cases great with
  | true => simp (config := { maxSteps := 1000000 }) (disch := omega) only [go_sem]
  | false =>
  have h200 := hgr rfl
  simp (config := { maxSteps := 1000000 }) (disch := omega) only [go_sem, hvlen, hvfg, hvld]
  refine W_callN (h0 := h1) (R := fun v => v = .ptr (.obj (h1.next + 2)) [] tLife) (L' := Lf.new) (p := h1.next + 2) rfl ⟨rfl, rfl⟩ rfl (by simp only [go_sem]; exact LNew_N) ?_
  rintro _ h2 rfl n0
  generalize h1.next + 2 = p at n0 ⊢
  simp (config := { maxSteps := 1000000 }) (disch := omega) only [go_sem, hvlen, hvfg, hvld]
  refine W_forE (α := AV × HP) l.length (fun k q => ⟨[(0, v), (3, .ptr (.obj p) [] tLife), (4, q.1), (5, .int .i64 k)], [], q.2⟩) (fun k q => LifeK h1 q.2 p (lifeRun .new l k) q.1 (safeS l k)) (.nilsl, h2) (by simp only [go_sem] <;> rfl) (.nil n0) fun k q hk hK ih => ?_
  obtain ⟨w, h3⟩ := q
  dsimp only at hK ⊢
  obtain ⟨inv, hst⟩ := inv_run l Inv.new new_stamp k (by omega)
  by_cases hlt : k < l.length
  · obtain ⟨n, rfl, hn⟩ := (hv.to (hK.n.arg.trans hF1.arg)).ix k hlt
    have w1 := hK.s.fg
    have w2 := hK.s.ld
    simp (config := { maxSteps := 1000000 }) (disch := omega) only [go_sem, hlt, hn, w1, w2]
    refine LStep_K (x := stp l k) hl rfl (by simp only [go_sem]) hK inv.i0 (hsz k) fun h4 hK4 => ?_
    have hn4 : h4.look (.arg n) = some ⟨.arr l.length tStep, encSteps l⟩ := by
      rw [← hn]; show h4.arg n = h3.arg n; rw [hK4.n.arg, hK.n.arg]
    obtain ⟨inv4, hst4⟩ := inv_run l Inv.new new_stamp (k + 1) (by omega)
    have hkeep : ∀ n, n < 8 → ((lifeRun .new l (k + 1)).fl.now.ino n).live = true → ((lifeRun .new l (k + 1)).fl.now.ino n).stamp ∈ safeS l k → namedF (lifeRun .new l (k + 1)).fl n = true :=
      fun n hn' hl' hm' => keeps inv (by omega) (stp l k) hn' hl' (safeS_mem hm')
    have hcr : (stp l k).kind = 9 → ∀ y, y ∈ safeS l k → y ∈ safeS l (k + 1) := fun h9 y hy => keeps_crash inv h9 (safeS_mem hy)
    have hS1 : safeS l (k + 1) = safeL (lifeRun .new l (k + 1)).fl 8 := rfl
    have hlen := safeS_len l k
    change LifeK h1 h4 p (lifeRun .new l (k + 1)) w (safeS l k) at hK4
    rw [hS1] at hcr
    generalize safeS l k = ys at *
    have hLL : lifeRun .new l (k + 1) = lifeRun .new l (k + 1) := rfl
    generalize eL : lifeRun .new l (k + 1) = L at hK4 inv4 hst4 hkeep hcr hS1
    obtain ⟨f, c, hA, _, _⟩ := hK4.n
    simp (config := { maxSteps := 1000000 }) (disch := omega) only [go_sem, hA.li, hA.fi]
    refine W_callp rfl ⟨rfl, rfl⟩ (by simp only [go_sem]; exact eDisk (a := L.fl.now) (b := L.fl.disk) (by simp only [go_sem, hA.ca])) ?_
    simp (config := { maxSteps := 1000000 }) (disch := omega) only [go_sem, w1, w2]
    refine W_forE (α := AV × HP) 8 (fun j q => ⟨[(0, .sl (.arg n) 0 l.length), (3, .ptr (.obj p) [] tLife), (4, w), (5, .int .i64 k), (6, .ptr (.stk cx.lvl 6) [] tImage), (7, q.1), (8, .int .i64 j)], [(6, ⟨tImage, L.fl.disk.enc⟩)], q.2⟩) (fun j q => Fr h4 q.2 [] ∧ SlJ h4 q.2 q.1 (safeL L.fl j)) (.nilsl, h4) (by simp only [go_sem] <;> rfl) ⟨Fr.refl _ _, .inl ⟨rfl, rfl⟩⟩ fun j q hj hq ih2 => ?_
    obtain ⟨u, h5⟩ := q
    obtain ⟨hF5, hU⟩ := hq
    dsimp only at hF5 hU ⊢
    have u1 := hU.fg
    have u2 := hU.ld
    have hulen := safeL_len L.fl j
    obtain ⟨f5, c5, hA5, _, _⟩ := hK4.n.same hF5
    have hW5 : SlJ h1 h5 w ys := hK4.s.same hF5
    by_cases hlt2 : j < 8
    · simp (config := { maxSteps := 1000000 }) (disch := omega) only [go_sem, hlt2, hA5.li, hA5.fi, hA5.ca, w1, w2, u1, u2]
      by_cases lv : (L.fl.now.ino j).live = true
      · have hst5 := hkeep j hlt2 lv
        simp (config := { maxSteps := 1000000 }) (disch := omega) only [go_sem, lv, w1, w2, u1, u2]
        by_cases nm : namedF L.fl j = true
        · have es : safeL L.fl (j + 1) = safeL L.fl j ++ [(L.fl.now.ino j).stamp] := by simp [safeL, lv, nm]
          have nm' := nm
          simp only [namedF, Bool.and_eq_true, decide_eq_true_eq] at nm'
          obtain ⟨⟨n1, n2⟩, n3⟩ := nm'
          have n3' : (0 : Int) < (refs L.fl.disk j : Int) := by omega
          simp (config := { maxSteps := 1000000 }) (disch := omega) only [go_sem, n1, n2, w1, w2, u1, u2]
          refine W_callp rfl ⟨rfl, rfl⟩ (by simp only [go_sem]; exact upE (up (Refs_ok (m := L.fl.disk) (below_stk _ _) (by simp only [go_sem, HP.push_rd_own])))) ?_
          simp (config := { maxSteps := 1000000 }) (disch := omega) only [go_sem, n3', w1, w2, u1, u2]
          refine W_callp rfl ⟨rfl, rfl⟩ (by simp only [go_sem]; exact In_ok (l := ys) hW5.push (by omega)) ?_
          by_cases hm : (L.fl.now.ino j).stamp ∈ ys
          · simp (config := { maxSteps := 1000000 }) (disch := omega) only [go_sem, hm, w1, w2, u1, u2]
            rcases hU with ⟨rfl, hl0⟩ | ⟨q, rfl, hq1, hq2, hq3⟩
            · simp (config := { maxSteps := 1000000 }) (disch := omega) only [go_sem, w1, w2]
              refine ih2 _ (.sl (.obj h5.next) 0 1, h5.nw (.arr 1 tI) (encL [(L.fl.now.ino j).stamp])) hlt2 ?_ ⟨hF5.trans Fr.nw, ?_⟩
              · simp only [go_sem]
              · rw [es, hl0]
                exact .inr ⟨h5.next, rfl, hF5.next, Nat.lt_succ_self _, look_nw⟩
            · rw [WAi_grow (hl q) hq3 (by omega)]
              simp (config := { maxSteps := 1000000 }) (disch := omega) only [go_sem, w1, w2]
              refine ih2 _ (.sl (.obj h5.next) 0 (safeL L.fl j ++ [(L.fl.now.ino j).stamp]).length, (h5.dl q).nw (.arr (safeL L.fl j ++ [(L.fl.now.ino j).stamp]).length tI) (encL (safeL L.fl j ++ [(L.fl.now.ino j).stamp]))) hlt2 ?_ ⟨(hF5.dl hq1).trans Fr.nw, ?_⟩
              · simp only [go_sem]
              · rw [es]
                exact .inr ⟨h5.next, rfl, hF5.next, Nat.lt_succ_self _, look_nw (h := h5.dl q)⟩
          · simp (config := { maxSteps := 1000000 }) (disch := omega) only [go_sem, hm, w1, w2, u1, u2]
            rcases hU with ⟨rfl, hl0⟩ | ⟨q, rfl, hq1, hq2, hq3⟩
            · simp (config := { maxSteps := 1000000 }) (disch := omega) only [go_sem, w1, w2]
              refine ih2 _ (.sl (.obj h5.next) 0 1, h5.nw (.arr 1 tI) (encL [(L.fl.now.ino j).stamp])) hlt2 ?_ ⟨hF5.trans Fr.nw, ?_⟩
              · simp only [go_sem]
              · rw [es, hl0]
                exact .inr ⟨h5.next, rfl, hF5.next, Nat.lt_succ_self _, look_nw⟩
            · rw [WAi_grow (hl q) hq3 (by omega)]
              simp (config := { maxSteps := 1000000 }) (disch := omega) only [go_sem, w1, w2]
              refine ih2 _ (.sl (.obj h5.next) 0 (safeL L.fl j ++ [(L.fl.now.ino j).stamp]).length, (h5.dl q).nw (.arr (safeL L.fl j ++ [(L.fl.now.ino j).stamp]).length tI) (encL (safeL L.fl j ++ [(L.fl.now.ino j).stamp]))) hlt2 ?_ ⟨(hF5.dl hq1).trans Fr.nw, ?_⟩
              · simp only [go_sem]
              · rw [es]
                exact .inr ⟨h5.next, rfl, hF5.next, Nat.lt_succ_self _, look_nw (h := h5.dl q)⟩
        · have es : safeL L.fl (j + 1) = safeL L.fl j := by simp [safeL, lv, nm]
          have hm : ¬(L.fl.now.ino j).stamp ∈ ys := fun h => nm (hst5 h)
          by_cases n1 : (L.fl.disk.ino j).live = true
          · by_cases n2 : (L.fl.disk.ino j).stamp = (L.fl.now.ino j).stamp
            · have n3 : ¬(0 : Int) < (refs L.fl.disk j : Int) := fun h => nm (by simp [namedF, n1, n2]; omega)
              simp (config := { maxSteps := 1000000 }) (disch := omega) only [go_sem, n1, n2, w1, w2, u1, u2]
              refine W_callp rfl ⟨rfl, rfl⟩ (by simp only [go_sem]; exact upE (up (Refs_ok (m := L.fl.disk) (below_stk _ _) (by simp only [go_sem, HP.push_rd_own])))) ?_
              simp (config := { maxSteps := 1000000 }) (disch := omega) only [go_sem, n3, w1, w2, u1, u2]
              refine W_callp rfl ⟨rfl, rfl⟩ (by simp only [go_sem]; exact In_ok (l := ys) hW5.push (by omega)) ?_
              simp (config := { maxSteps := 1000000 }) (disch := omega) only [go_sem, hm, w1, w2, u1, u2]
              refine ih2 _ (u, h5) hlt2 ?_ ⟨hF5, by rw [es]; exact hU⟩
              simp only [go_sem]
            · simp (config := { maxSteps := 1000000 }) (disch := omega) only [go_sem, n1, n2, w1, w2, u1, u2]
              refine W_callp rfl ⟨rfl, rfl⟩ (by simp only [go_sem]; exact In_ok (l := ys) hW5.push (by omega)) ?_
              simp (config := { maxSteps := 1000000 }) (disch := omega) only [go_sem, hm, w1, w2, u1, u2]
              refine ih2 _ (u, h5) hlt2 ?_ ⟨hF5, by rw [es]; exact hU⟩
              simp only [go_sem]
          · simp (config := { maxSteps := 1000000 }) (disch := omega) only [go_sem, n1, w1, w2, u1, u2]
            refine W_callp rfl ⟨rfl, rfl⟩ (by simp only [go_sem]; exact In_ok (l := ys) hW5.push (by omega)) ?_
            simp (config := { maxSteps := 1000000 }) (disch := omega) only [go_sem, hm, w1, w2, u1, u2]
            refine ih2 _ (u, h5) hlt2 ?_ ⟨hF5, by rw [es]; exact hU⟩
            simp only [go_sem]
      · have es : safeL L.fl (j + 1) = safeL L.fl j := by simp [safeL, lv]
        simp (config := { maxSteps := 1000000 }) (disch := omega) only [go_sem, lv, w1, w2, u1, u2]
        refine ih2 _ (u, h5) hlt2 ?_ ⟨hF5, by rw [es]; exact hU⟩
        simp only [go_sem]
    · obtain rfl : j = 8 := by omega
      have hn5 : h5.look (.arg n) = some ⟨.arr l.length tStep, encSteps l⟩ := by
        rw [← hn4]; show h5.arg n = h4.arg n; rw [hF5.arg]
      simp (config := { maxSteps := 1000000 }) (disch := omega) only [go_sem, hlt, hn5, w1, w2, u1, u2]
      have done : LifeK h1 h5 p (lifeRun .new l (k + 1)) u (safeS l (k + 1)) := by rw [hS1, eL]; exact .mk hK4.n hF5 hU
      by_cases h9 : (stp l k).kind = 9
      · simp (config := { maxSteps := 1000000 }) (disch := omega) only [go_sem, h9, w1, w2, u1, u2]
        refine W_for ys.length (fun i => ⟨[(0, .sl (.arg n) 0 l.length), (3, .ptr (.obj p) [] tLife), (4, w), (5, .int .i64 k), (7, u), (11, .int .i64 i)], [], h5⟩) (by simp only [go_sem] <;> rfl) fun i hi ih3 => ?_
        have w3 := hW5.len
        by_cases hlt3 : i < ys.length
        · have hin : num ys i ∈ safeL L.fl 8 := hcr h9 _ (by simp [num, hlt3])
          obtain ⟨qw, rfl, hqw⟩ : ∃ q, w = .sl (.obj q) 0 ys.length ∧ h5.look (.obj q) = some ⟨.arr ys.length tI, encL ys⟩ := by
            rcases hW5 with ⟨_, rfl⟩ | ⟨q, e, _, _, e2⟩
            · simp at hlt3
            · exact ⟨q, e, e2⟩
          simp (config := { maxSteps := 1000000 }) (disch := omega) only [go_sem, hlt3, hqw, encL_num ys hlt3, u1, u2]
          refine W_callp rfl ⟨rfl, rfl⟩ (by simp only [go_sem]; exact In_ok (l := safeL L.fl 8) hU.push (by omega)) ?_
          simp (config := { maxSteps := 1000000 }) (disch := omega) only [go_sem, hin, u1, u2]
          refine ih3 _ hlt3 ?_
          simp only [go_sem]
        · obtain rfl : i = ys.length := by omega
          simp (config := { maxSteps := 1000000 }) (disch := omega) only [go_sem, w3, w1, w2, u1, u2]
          refine ih _ (u, h5) hlt ?_ done
          simp only [go_sem]
      · simp (config := { maxSteps := 1000000 }) (disch := omega) only [go_sem, h9, w1, w2, u1, u2]
        refine ih _ (u, h5) hlt ?_ done
        simp only [go_sem]
  · obtain rfl : k = l.length := by omega
    simp (config := { maxSteps := 1000000 }) (disch := omega) only [go_sem, hvlen, hvfg, hvld]
end
end Go.Mini

