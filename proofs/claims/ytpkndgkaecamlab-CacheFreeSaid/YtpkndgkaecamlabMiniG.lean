/- A part of the proof: MiniG. -/
import Derived.Test.YtpkndgkaecamlabMiniF
namespace Go.Mini
set_option linter.unusedSimpArgs false
set_option linter.unusedVariables false

section
variable {T : Nat → Option MFun} {cx : Cx} {k : List Item} {kill : List Nat} {r : List MOp} {sl : Slots} {own : Own} {h : HP} {Q : St → Prop}
/-- A loop, one round after the other. -/
theorem W_round {a b : List Nat} {c : MC} {s : St} : W T cx (.code (.loop a b c) :: k) s Q = W T cx (.code c :: .inLoop a b c :: k) (s.keep a b) Q := W_iff rfl
theorem W_again {a b : List Nat} {c : MC} {s : St} : W T cx (.inLoop a b c :: k) s Q = W T cx (.code c :: .inLoop a b c :: k) (s.keep a b) Q := W_iff rfl

@[go_sem] theorem enter0 : St.enter [] h = ⟨[], [], h⟩ := rfl
@[go_sem] theorem enter1 (a : AV) : St.enter [a] h = ⟨[(0, a)], [], h⟩ := rfl
@[go_sem] theorem enter2 (a b : AV) : St.enter [a, b] h = ⟨[(0, a), (1, b)], [], h⟩ := rfl
@[go_sem] theorem enter3 (a b c : AV) : St.enter [a, b, c] h = ⟨[(0, a), (1, b), (2, c)], [], h⟩ := rfl
@[go_sem] theorem enter4 (a b c d : AV) : St.enter [a, b, c, d] h = ⟨[(0, a), (1, b), (2, c), (3, d)], [], h⟩ := rfl
@[go_sem] theorem enter5 (a b c d e : AV) : St.enter [a, b, c, d, e] h = ⟨[(0, a), (1, b), (2, c), (3, d), (4, e)], [], h⟩ := rfl
attribute [go_sem] Nat.reduceAdd Nat.reduceMul Nat.reduceSub Int.reduceAdd Int.reduceToNat Int.reduceLT Int.reduceLE Int.reduceEq Int.reduceMul Int.reduceSub Int.reduceNeg Int.toNat_natCast
@[go_sem] theorem img_mk (a : Vector Ino 8) (b : Vector (Vector Ent 4) 3) (c : Vector Dat 9) : AV.cons (encV Ino.enc a) (.cons (encV (encV Ent.enc) b) (.cons (encV Dat.enc c) .unit)) = Img.enc ⟨a, b, c⟩ := rfl
@[go_sem] theorem dec_T [inst : Decidable True] : @decide True inst = true := decide_eq_true trivial
@[go_sem] theorem dec_F [inst : Decidable False] : @decide False inst = false := decide_eq_false id
@[go_sem] theorem into_self (i : Id) (p : List Nat) (t : Ty) : AV.into i (.ptr i p t) = true := by simp [AV.into]
theorem apart_ptr {i : Id} {l t : Nat} (h : i.below l) (p : List Nat) (u : Ty) : AV.apart (.stk l t) (.ptr i p u) = true := by
  have : (i == Id.stk l t) = false := by simpa using h.ne
  simp [AV.apart, this]
@[go_sem] theorem apart_own (l s t : Nat) (p : List Nat) (u : Ty) : AV.apart (.stk l t) (.ptr (.stk l s) p u) = !(s == t) := by
  simp only [AV.apart]; congr 1; rw [Bool.eq_iff_iff]; simp
@[go_sem] theorem all_one {α : Type} (a : α) (P : α → Prop) : (∀ u ∈ [a], P u) = P a := by simp
@[go_sem] theorem all_two {α : Type} (a b : α) (P : α → Prop) : (∀ u ∈ [a, b], P u) = (P a ∧ P b) := by simp
@[go_sem] theorem enter6 (a b c d e f : AV) : St.enter [a, b, c, d, e, f] h = ⟨[(0, a), (1, b), (2, c), (3, d), (4, e), (5, f)], [], h⟩ := rfl
/-! Two results. -/
def two (x y : Option AV) : Option AV := match x, y with
  | some x, some y => some (.tup (.cons x (.cons y .unit)))
  | _, _ => none
@[go_sem] theorem two_some (x y : AV) : two (some x) (some y) = some (.tup (.cons x (.cons y .unit))) := rfl
def res1 (cx : Cx) (s : St) (r : MRes) : Option AV := resOf cx s r
@[go_sem] theorem results_two {a b : MRes} {s : St} : results cx s [a, b] = two (res1 cx s a) (res1 cx s b) := by
  simp only [results, resList, two, res1]
  cases resOf cx s a <;> cases resOf cx s b <;> rfl
@[go_sem] theorem res1_tmp {t : Nat} : res1 cx ⟨sl, own, h⟩ (.tmp t) = if (sl.get t).safe = true then some (sl.get t) else none := rfl
@[go_sem] theorem res1_cell {t : Nat} {ty : Ty} : res1 cx ⟨sl, own, h⟩ (.cell t ty) = cellV cx ⟨sl, own, h⟩ (sl.get t) ty := rfl
@[go_sem] theorem extV_0 (a b : AV) : extV (.tup (.cons a b)) 0 = if a.safe = true then some a else none := rfl
@[go_sem] theorem extV_1 (a b c : AV) : extV (.tup (.cons a (.cons b c))) 1 = if b.safe = true then some b else none := rfl
@[go_sem] theorem safe_ent (e : Ent) : e.enc.safe = true := rfl
@[go_sem] theorem safe_ino (e : Ino) : e.enc.safe = true := rfl
@[go_sem] theorem safe_dat (e : Dat) : e.enc.safe = true := rfl
@[go_sem] theorem safe_img (e : Img) : e.enc.safe = true := rfl
end

section
variable {cx : Cx} {h : HP} {p p' : Id} {q q' : List Nat} {m m' : Img}

@[go_sem] theorem fill_nil (t : Ty) (v : AV) : fill t v [] = some v := rfl
theorem Free_ok : Ok tbl cx Fn.image_Free (St.enter [] h) fun v h' => v = Ino.none.enc ∧ h' = h := by
  rw [Ok_eq]
  simp (disch := omega) only [go_sem, W_round, W_again]
  exact rfl
theorem None_ok : Ok tbl cx Fn.eiderdownref_None (St.enter [] h) fun v h' => v = Ino.none.enc ∧ h' = h := by
  rw [Ok_eq]
  simp (disch := omega) only [go_sem, W_round, W_again]
  exact rfl
def Img.blank : Img := { Img.zero with inode := Vector.replicate 8 Ino.none }
theorem Blank_ok : Ok tbl cx Fn.eiderdownref_Blank (St.enter [] h) fun v h' => v = Img.blank.enc ∧ h' = h := by
  rw [Ok_eq]
  simp (disch := omega) only [go_sem, W_round, W_again]
  iterate 8 (
    refine W_callp rfl ⟨rfl, rfl⟩ (by simp only [go_sem]; exact None_ok) ?_
    simp (disch := omega) only [go_sem, W_round, W_again])
  exact rfl
theorem New_ok : Ok tbl cx Fn.image_New (St.enter [] h) fun v h' => v = Img.blank.enc ∧ h' = h := by
  rw [Ok_eq]
  simp (disch := omega) only [go_sem, W_round, W_again]
  iterate 8 (
    refine W_callp rfl ⟨rfl, rfl⟩ (by simp only [go_sem]; exact Free_ok) ?_
    simp (disch := omega) only [go_sem, W_round, W_again])
  exact rfl

theorem leads_ok {d s : Nat} {i : Int} (hd : d < 3) (hs : s < 4) (hb : p.below cx.lvl) (hm : h.rd p q = some m.enc) :
    Ok tbl cx Fn.eiderdownref_leads (St.enter [.ptr p q tImage, .int .i64 d, .int .i64 s, .int .i64 i] h) fun v h' => v = .bool (leads m d s i) ∧ h' = h := by
  rw [Ok_eq]
  simp (disch := omega) only [go_sem, rd_ext hb, HP.rd_app hm]
  refine WG_intro (fun hc => ?_) (fun hc => ?_) <;> simp (disch := omega) only [go_sem, hc, rd_ext hb, HP.rd_app hm]
  all_goals simp only [leads, hc, go_sem]
theorem Leads_ok {i : Int} (hb : p.below cx.lvl) (hm : h.rd p q = some m.enc) :
    Ok tbl cx Fn.eiderdownref_Leads (St.enter [.ptr p q tImage, .int .i64 i] h) fun v h' => v = .int .i64 (refs m i) ∧ h' = h := by
  rw [Ok_eq]
  simp (disch := omega) only [go_sem, rd_ext hb, HP.rd_app hm]
  refine W_for 3 (fun d => ⟨[(0, .ptr p q tImage), (1, .int .i64 i), (5, .int .i64 (sumN d fun d => refsRow m i d 4 : Nat)), (6, .int .i64 d)], [], h⟩) (by simp only [go_sem]; rfl) fun d hd ih => ?_
  by_cases hlt : d < 3
  · have hs := sumN_le (fun d => refsRow_le m i d 4) d
    simp (disch := omega) only [go_sem, hlt]
    refine W_for 4 (fun s => ⟨[(0, .ptr p q tImage), (1, .int .i64 i), (5, .int .i64 ((sumN d fun d => refsRow m i d 4) + refsRow m i d s : Nat)), (6, .int .i64 d), (7, .int .i64 s)], [], h⟩) (by simp only [go_sem]; rfl) fun s hs' ih' => ?_
    have hr := refsRow_le m i d s
    by_cases hlt' : s < 4
    · simp (disch := omega) only [go_sem, hlt']
      refine W_callp rfl ⟨rfl, rfl⟩ (by simp only [go_sem]; exact leads_ok (m := m) hlt hlt' hb.succ (by simp only [HP.push_rd_ext hb, hm])) ?_
      simp (disch := omega) only [go_sem, hlt']
      refine WC_intro (fun hc' => ?_) (fun hc' => ?_) <;> simp (disch := omega) only [go_sem] <;> refine ih' _ hlt' ?_ <;>
          simp only [go_sem, refsRow_succ, hc', b2n, Int.add_assoc, Nat.add_zero]
    · obtain rfl : s = 4 := by omega
      simp (disch := omega) only [go_sem]
      exact ih _ hlt (by simp only [go_sem, sumN_succ])
  · obtain rfl : d = 3 := by omega
    simp (disch := omega) only [go_sem]
    exact rfl

/-! Both. -/
def bothRow (m m' : Img) (i : Int) (d k : Nat) : Nat := sumN k fun s => b2n (leads m d s i || leads m' d s i)
def both (m m' : Img) (i : Int) : Nat := sumN 3 fun d => bothRow m m' i d 4
theorem bothRow_le (m m' : Img) (i : Int) (d k : Nat) : bothRow m m' i d k ≤ k := by
  have := sumN_le (fun s => b2n_le (leads m d s i || leads m' d s i)) k; simpa [bothRow] using this
theorem bothRow_succ (m m' : Img) (i : Int) (d k : Nat) : bothRow m m' i d (k + 1) = bothRow m m' i d k + b2n (leads m d k i || leads m' d k i) := rfl

theorem Both_ok {i : Int} (hb : p.below cx.lvl) (hm : h.rd p q = some m.enc) (hb' : p'.below cx.lvl) (hm' : h.rd p' q' = some m'.enc) :
    Ok tbl cx Fn.eiderdownref_Both (St.enter [.ptr p q tImage, .ptr p' q' tImage, .int .i64 i] h) fun v h' => v = .int .i64 (both m m' i) ∧ h' = h := by
  rw [Ok_eq]
  simp (disch := omega) only [go_sem]
  refine W_for 3 (fun d => ⟨[(0, .ptr p q tImage), (1, .ptr p' q' tImage), (2, .int .i64 i), (7, .int .i64 (sumN d fun d => bothRow m m' i d 4 : Nat)), (8, .int .i64 d)], [], h⟩) (by simp only [go_sem]; rfl) fun d hd ih => ?_
  by_cases hlt : d < 3
  · have hs := sumN_le (fun d => bothRow_le m m' i d 4) d
    simp (disch := omega) only [go_sem, hlt]
    refine W_for 4 (fun s => ⟨[(0, .ptr p q tImage), (1, .ptr p' q' tImage), (2, .int .i64 i), (7, .int .i64 ((sumN d fun d => bothRow m m' i d 4) + bothRow m m' i d s : Nat)), (8, .int .i64 d), (9, .int .i64 s)], [], h⟩) (by simp only [go_sem]; rfl) fun s hs' ih' => ?_
    have hr := bothRow_le m m' i d s
    by_cases hlt' : s < 4
    · simp (disch := omega) only [go_sem, hlt']
      refine W_callp rfl ⟨rfl, rfl⟩ (by simp only [go_sem]; exact leads_ok (m := m) hlt hlt' hb.succ (by simp only [HP.push_rd_ext hb, hm])) ?_
      simp (disch := omega) only [go_sem, hlt']
      refine WG_intro (fun hc => ?_) (fun hc => ?_) <;> simp (disch := omega) only [go_sem, hc]
      · refine W_callp rfl ⟨rfl, rfl⟩ (by simp only [go_sem]; exact leads_ok (m := m') hlt hlt' hb'.succ (by simp only [HP.push_rd_ext hb', hm'])) ?_
        simp (disch := omega) only [go_sem, hlt']
        refine WC_intro (fun hc' => ?_) (fun hc' => ?_) <;> simp (disch := omega) only [go_sem] <;> refine ih' _ hlt' ?_ <;>
            simp only [go_sem, bothRow_succ, hc, hc', b2n, Int.add_assoc, Nat.add_zero]
      · refine ih' _ hlt' ?_
        simp only [go_sem, bothRow_succ, hc, b2n, Int.add_assoc, Nat.add_zero]
    · obtain rfl : s = 4 := by omega
      simp (disch := omega) only [go_sem]
      exact ih _ hlt (by simp only [go_sem, sumN_succ])
  · obtain rfl : d = 3 := by omega
    simp (disch := omega) only [go_sem]
    exact rfl

end
end Go.Mini
