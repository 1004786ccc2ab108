/- A part of the proof: MiniFit. -/
import Derived.Test.YtpkndgkaecamlabMiniB
namespace Go.Mini
set_option linter.unusedSimpArgs false
set_option linter.unusedVariables false
set_option maxHeartbeats 4000000
set_option maxRecDepth 100000

def FA (m m' : Img) (n : Nat) : Prop := (m.ino n).live = true → (m'.ino n).live = true → ¬(m.ino n).stamp = (m'.ino n).stamp → refs m' n = 0
def FB (m m' : Img) (n k : Nat) : Prop := ¬k = n → (m.ino n).live = true → (m'.ino k).live = true → ¬(m'.ino k).stamp = (m.ino n).stamp
def FC (m m' : Img) (n p k q : Nat) : Prop := (m'.ino k).live = true → (m'.ino k).prt q = (m.ino n).prt p → k = n ∧ q = p ∧ (m'.ino k).stamp = (m.ino n).stamp
def FCp (m m' : Img) (n p : Nat) : Prop := (m.ino n).live = true → 0 ≤ (m.ino n).prt p → ∀ k, k < 8 → ∀ q, q < 2 → FC m m' n p k q
def FI (m m' : Img) (n : Nat) : Prop := FA m m' n ∧ (∀ k, k < 8 → FB m m' n k) ∧ ∀ p, p < 2 → FCp m m' n p
def FD (m m' : Img) (x : Nat) : Prop := held m' x = true → (m.dat x).of = (m'.dat x).of
def FE (m m' : Img) (d s : Nat) : Prop := ¬(m.ent d s).name = ⟨#[]⟩ → ¬(m'.ent d s).name = ⟨#[]⟩ → m.ent d s = m'.ent d s
def FG (m m' : Img) (d s t : Nat) : Prop := ¬t = s → ¬(m.ent d s).name = ⟨#[]⟩ → ¬(m'.ent d t).name = (m.ent d s).name
def FSx9 (m m' : Img) (d s : Nat) : Prop := FE m m' d s ∧ ∀ t, t < 4 → FG m m' d s t
def Fits (m m' : Img) : Prop := (∀ n, n < 8 → FI m m' n) ∧ (∀ x, x < 9 → FD m m' x) ∧ ∀ d, d < 3 → ∀ s, s < 4 → FSx9 m m' d s
theorem cutP {A G P : Prop} (f : (A → G) → P) (k : A → G) : P := f k
section
variable {cx : Cx} {h : HP} {p p' : Id} {q q' : List Nat} {m m' : Img}
theorem fit_ok (hb : p.below cx.lvl) (hm : h.rd p q = some m.enc) (hb' : p'.below cx.lvl) (hm' : h.rd p' q' = some m'.enc) :
    Ok tblB cx Fn.eiderdownlaw_fit (St.enter [.ptr p q tImage, .ptr p' q' tImage] h) fun v h' => (∃ b, v = .bool b ∧ (b = true → Fits m m')) ∧ h' = h := by
  rw [Ok_eq]
  simp (config := { maxSteps := 1000000 }) (disch := omega) only [go_sem]
  refine W_forP 8 (fun n => ⟨[(0, .ptr p q tImage), (1, .ptr p' q' tImage), (5, .int .i64 n)], [], h⟩) (fun n => ∀ i, i < n → FI m m' i) (by simp only [go_sem] <;> rfl) (fun i hi => by omega) fun n hn hp ih => ?_
  by_cases hlt : n < 8
  · apply cutP (A := FA m m' n)
    · intro key
      simp (config := { maxSteps := 1000000 }) (disch := omega) only [go_sem, hlt, rd_ext hb, HP.rd_app hm, fg_ptr hb, leads_ptr hb, apart_ptr hb, rd_ext hb', HP.rd_app hm', fg_ptr hb', leads_ptr hb', apart_ptr hb']
      cases c1 : (m.ino n).live with
      | false => simp (config := { maxSteps := 1000000 }) (disch := omega) only [go_sem]; exact key (fun h => by rw [c1] at h; exact absurd h (by simp))
      | true =>
        cases c2 : (m'.ino n).live with
        | false => simp (config := { maxSteps := 1000000 }) (disch := omega) only [go_sem, c2]; exact key (fun _ h => by rw [c2] at h; exact absurd h (by simp))
        | true =>
          by_cases c3 : (m.ino n).stamp = (m'.ino n).stamp
          · simp (config := { maxSteps := 1000000 }) (disch := omega) only [go_sem, c2, c3]; exact key (fun _ _ h => absurd c3 h)
          · simp (config := { maxSteps := 1000000 }) (disch := omega) only [go_sem, c2, c3]
            refine W_callp rfl ⟨rfl, rfl⟩ (by simp only [go_sem]; exact up (Leads_ok (m := m') hb'.succ (by simp only [HP.push_rd_ext hb', hm']))) ?_
            simp (config := { maxSteps := 1000000 }) (disch := omega) only [go_sem, c2, c3]
            by_cases c4 : 0 < refs m' n
            · simp (config := { maxSteps := 1000000 }) (disch := omega) only [go_sem, c4]; first | exact ⟨⟨false, rfl, by simp⟩, rfl⟩ | exact ⟨false, rfl, by simp⟩
            · simp (config := { maxSteps := 1000000 }) (disch := omega) only [go_sem, c4]; exact key (fun _ _ _ => by omega)
    · intro hA
      refine W_forP 8 (fun k => ⟨[(0, .ptr p q tImage), (1, .ptr p' q' tImage), (5, .int .i64 n), (6, .ptr (.stk cx.lvl 6) [] tInode), (8, .int .i64 k)], [(6, ⟨tInode, (m.ino n).enc⟩)], h⟩) (fun k => ∀ i, i < k → FB m m' n i) (by simp only [go_sem] <;> rfl) (fun i hi => by omega) fun k hk hp2 ih2 => ?_
      by_cases hlt2 : k < 8
      · simp (config := { maxSteps := 1000000 }) (disch := omega) only [go_sem, hlt, hlt2, rd_ext hb, HP.rd_app hm, fg_ptr hb, leads_ptr hb, apart_ptr hb, rd_ext hb', HP.rd_app hm', fg_ptr hb', leads_ptr hb', apart_ptr hb']
        by_cases c1 : k = n
        · subst c1
          simp (config := { maxSteps := 1000000 }) (disch := omega) only [go_sem]
          refine ih2 _ hlt2 (step_all hp2 (fun h => absurd rfl h)) ?_
          simp only [go_sem]
        · cases c2 : (m.ino n).live with
          | false =>
            simp (config := { maxSteps := 1000000 }) (disch := omega) only [go_sem, c2]
            refine ih2 _ hlt2 (step_all hp2 (fun _ h => by rw [c2] at h; exact absurd h (by simp))) ?_
            simp only [go_sem]
          | true =>
            simp (config := { maxSteps := 1000000 }) (disch := omega) only [go_sem, c2, hlt2, rd_ext hb, HP.rd_app hm, fg_ptr hb, leads_ptr hb, apart_ptr hb, rd_ext hb', HP.rd_app hm', fg_ptr hb', leads_ptr hb', apart_ptr hb']
            cases c3 : (m'.ino k).live with
            | false =>
              simp (config := { maxSteps := 1000000 }) (disch := omega) only [go_sem, c3]
              refine ih2 _ hlt2 (step_all hp2 (fun _ _ h => by rw [c3] at h; exact absurd h (by simp))) ?_
              simp only [go_sem]
            | true =>
              by_cases c4 : (m'.ino k).stamp = (m.ino n).stamp
              · simp (config := { maxSteps := 1000000 }) (disch := omega) only [go_sem, c2, c3, c4, hlt2, rd_ext hb, HP.rd_app hm, fg_ptr hb, leads_ptr hb, apart_ptr hb, rd_ext hb', HP.rd_app hm', fg_ptr hb', leads_ptr hb', apart_ptr hb']
                first | exact ⟨⟨false, rfl, by simp⟩, rfl⟩ | exact ⟨false, rfl, by simp⟩
              · simp (config := { maxSteps := 1000000 }) (disch := omega) only [go_sem, c2, c3, c4, hlt2, rd_ext hb, HP.rd_app hm, fg_ptr hb, leads_ptr hb, apart_ptr hb, rd_ext hb', HP.rd_app hm', fg_ptr hb', leads_ptr hb', apart_ptr hb']
                refine ih2 _ hlt2 (step_all hp2 (fun _ _ _ => c4)) ?_
                simp only [go_sem]
      · obtain rfl : k = 8 := by omega
        simp (config := { maxSteps := 1000000 }) (disch := omega) only [go_sem]
        refine W_forP 2 (fun r => ⟨[(0, .ptr p q tImage), (1, .ptr p' q' tImage), (5, .int .i64 n), (6, .ptr (.stk cx.lvl 6) [] tInode), (9, .int .i64 r)], [(6, ⟨tInode, (m.ino n).enc⟩)], h⟩) (fun r => ∀ i, i < r → FCp m m' n i) (by simp only [go_sem] <;> rfl) (fun i hi => by omega) fun r hr hp3 ih3 => ?_
        by_cases hlt3 : r < 2
        · simp (config := { maxSteps := 1000000 }) (disch := omega) only [go_sem, hlt3]
          cases c1 : (m.ino n).live with
          | false =>
            simp (config := { maxSteps := 1000000 }) (disch := omega) only [go_sem, c1]
            refine ih3 _ hlt3 (step_all hp3 (fun h => by rw [c1] at h; exact absurd h (by simp))) ?_
            simp only [go_sem]
          | true =>
            by_cases c2 : (m.ino n).prt r < 0
            · simp (config := { maxSteps := 1000000 }) (disch := omega) only [go_sem, c1, c2]
              refine ih3 _ hlt3 (step_all hp3 (fun _ h => by omega)) ?_
              simp only [go_sem]
            · simp (config := { maxSteps := 1000000 }) (disch := omega) only [go_sem, c1, c2]
              refine W_forP 8 (fun k => ⟨[(0, .ptr p q tImage), (1, .ptr p' q' tImage), (5, .int .i64 n), (6, .ptr (.stk cx.lvl 6) [] tInode), (9, .int .i64 r), (10, .int .i64 ((m.ino n).prt r)), (11, .int .i64 k)], [(6, ⟨tInode, (m.ino n).enc⟩)], h⟩) (fun k => ∀ i, i < k → ∀ q, q < 2 → FC m m' n r i q) (by simp only [go_sem] <;> rfl) (fun i hi => by omega) fun k hk4 hp4 ih4 => ?_
              by_cases hlt4 : k < 8
              · simp (config := { maxSteps := 1000000 }) (disch := omega) only [go_sem]
                refine W_forP 2 (fun a => ⟨[(0, .ptr p q tImage), (1, .ptr p' q' tImage), (5, .int .i64 n), (6, .ptr (.stk cx.lvl 6) [] tInode), (9, .int .i64 r), (10, .int .i64 ((m.ino n).prt r)), (11, .int .i64 k), (12, .int .i64 a)], [(6, ⟨tInode, (m.ino n).enc⟩)], h⟩) (fun a => ∀ i, i < a → FC m m' n r k i) (by simp only [go_sem] <;> rfl) (fun i hi => by omega) fun a ha hp5 ih5 => ?_
                by_cases hlt5 : a < 2
                · simp (config := { maxSteps := 1000000 }) (disch := omega) only [go_sem, hlt4, hlt5, rd_ext hb, HP.rd_app hm, fg_ptr hb, leads_ptr hb, apart_ptr hb, rd_ext hb', HP.rd_app hm', fg_ptr hb', leads_ptr hb', apart_ptr hb']
                  cases d1 : (m'.ino k).live with
                  | false =>
                    simp (config := { maxSteps := 1000000 }) (disch := omega) only [go_sem, d1]
                    refine ih5 _ hlt5 (step_all hp5 (fun h => by rw [d1] at h; exact absurd h (by simp))) ?_
                    simp only [go_sem]
                  | true =>
                    by_cases d2 : (m'.ino k).prt a = (m.ino n).prt r
                    · by_cases d3 : k = n
                      · by_cases d4 : a = r
                        · by_cases d5 : (m'.ino k).stamp = (m.ino n).stamp
                          · simp (config := { maxSteps := 1000000 }) (disch := omega) only [go_sem, d1, d2, hlt4, hlt5, rd_ext hb, HP.rd_app hm, fg_ptr hb, leads_ptr hb, apart_ptr hb, rd_ext hb', HP.rd_app hm', fg_ptr hb', leads_ptr hb', apart_ptr hb']
                            refine ih5 _ hlt5 (step_all hp5 (fun _ _ => ⟨d3, d4, d5⟩)) ?_
                            simp only [go_sem]
                          · simp (config := { maxSteps := 1000000 }) (disch := omega) only [go_sem, d1, d2, d5, hlt4, hlt5, rd_ext hb, HP.rd_app hm, fg_ptr hb, leads_ptr hb, apart_ptr hb, rd_ext hb', HP.rd_app hm', fg_ptr hb', leads_ptr hb', apart_ptr hb']
                            first | exact ⟨⟨false, rfl, by simp⟩, rfl⟩ | exact ⟨false, rfl, by simp⟩
                        · simp (config := { maxSteps := 1000000 }) (disch := omega) only [go_sem, d1, d2, hlt4, hlt5, rd_ext hb, HP.rd_app hm, fg_ptr hb, leads_ptr hb, apart_ptr hb, rd_ext hb', HP.rd_app hm', fg_ptr hb', leads_ptr hb', apart_ptr hb']
                          first | exact ⟨⟨false, rfl, by simp⟩, rfl⟩ | exact ⟨false, rfl, by simp⟩
                      · simp (config := { maxSteps := 1000000 }) (disch := omega) only [go_sem, d1, d2, hlt4, hlt5, rd_ext hb, HP.rd_app hm, fg_ptr hb, leads_ptr hb, apart_ptr hb, rd_ext hb', HP.rd_app hm', fg_ptr hb', leads_ptr hb', apart_ptr hb']
                        first | exact ⟨⟨false, rfl, by simp⟩, rfl⟩ | exact ⟨false, rfl, by simp⟩
                    · simp (config := { maxSteps := 1000000 }) (disch := omega) only [go_sem, d1, d2, hlt4, hlt5, rd_ext hb, HP.rd_app hm, fg_ptr hb, leads_ptr hb, apart_ptr hb, rd_ext hb', HP.rd_app hm', fg_ptr hb', leads_ptr hb', apart_ptr hb']
                      refine ih5 _ hlt5 (step_all hp5 (fun _ h => absurd h d2)) ?_
                      simp only [go_sem]
                · obtain rfl : a = 2 := by omega
                  simp (config := { maxSteps := 1000000 }) (disch := omega) only [go_sem]
                  refine ih4 _ hlt4 (step_all hp4 hp5) ?_
                  simp only [go_sem]
              · obtain rfl : k = 8 := by omega
                simp (config := { maxSteps := 1000000 }) (disch := omega) only [go_sem]
                refine ih3 _ hlt3 (step_all hp3 (fun _ _ => hp4)) ?_
                simp only [go_sem]
        · obtain rfl : r = 2 := by omega
          simp (config := { maxSteps := 1000000 }) (disch := omega) only [go_sem]
          refine ih _ hlt (step_all hp ⟨hA, hp2, hp3⟩) ?_
          simp only [go_sem]
  · obtain rfl : n = 8 := by omega
    simp (config := { maxSteps := 1000000 }) (disch := omega) only [go_sem]
    refine W_forP 9 (fun x => ⟨[(0, .ptr p q tImage), (1, .ptr p' q' tImage), (13, .int .i64 x)], [], h⟩) (fun x => ∀ i, i < x → FD m m' i) (by simp only [go_sem] <;> rfl) (fun i hi => by omega) fun x hx hp2 ih2 => ?_
    by_cases hlt2 : x < 9
    · simp (config := { maxSteps := 1000000 }) (disch := omega) only [go_sem, rd_ext hb, HP.rd_app hm, fg_ptr hb, leads_ptr hb, apart_ptr hb, rd_ext hb', HP.rd_app hm', fg_ptr hb', leads_ptr hb', apart_ptr hb']
      refine W_callp rfl ⟨rfl, rfl⟩ (by simp only [go_sem]; exact up (Held_ok (m := m') hb'.succ (by simp only [HP.push_rd_ext hb', hm']))) ?_
      simp (config := { maxSteps := 1000000 }) (disch := omega) only [go_sem]
      cases c1 : held m' x with
      | false =>
        simp (config := { maxSteps := 1000000 }) (disch := omega) only [go_sem, c1]
        refine ih2 _ hlt2 (step_all hp2 (fun h => by rw [c1] at h; exact absurd h (by simp))) ?_
        simp only [go_sem]
      | true =>
        by_cases c2 : (m.dat x).of = (m'.dat x).of
        · simp (config := { maxSteps := 1000000 }) (disch := omega) only [go_sem, c1, c2, hlt2, rd_ext hb, HP.rd_app hm, fg_ptr hb, leads_ptr hb, apart_ptr hb, rd_ext hb', HP.rd_app hm', fg_ptr hb', leads_ptr hb', apart_ptr hb']
          refine ih2 _ hlt2 (step_all hp2 (fun _ => c2)) ?_
          simp only [go_sem]
        · simp (config := { maxSteps := 1000000 }) (disch := omega) only [go_sem, c1, c2, hlt2, rd_ext hb, HP.rd_app hm, fg_ptr hb, leads_ptr hb, apart_ptr hb, rd_ext hb', HP.rd_app hm', fg_ptr hb', leads_ptr hb', apart_ptr hb']
          first | exact ⟨⟨false, rfl, by simp⟩, rfl⟩ | exact ⟨false, rfl, by simp⟩
    · obtain rfl : x = 9 := by omega
      simp (config := { maxSteps := 1000000 }) (disch := omega) only [go_sem]
      refine W_forP 3 (fun d => ⟨[(0, .ptr p q tImage), (1, .ptr p' q' tImage), (14, .int .i64 d)], [], h⟩) (fun d => ∀ i, i < d → ∀ s, s < 4 → FSx9 m m' i s) (by simp only [go_sem] <;> rfl) (fun i hi => by omega) fun d hd hp3 ih3 => ?_
      by_cases hlt3 : d < 3
      · simp (config := { maxSteps := 1000000 }) (disch := omega) only [go_sem]
        refine W_forP 4 (fun s => ⟨[(0, .ptr p q tImage), (1, .ptr p' q' tImage), (14, .int .i64 d), (15, .int .i64 s)], [], h⟩) (fun s => ∀ i, i < s → FSx9 m m' d i) (by simp only [go_sem] <;> rfl) (fun i hi => by omega) fun s hs hp4 ih4 => ?_
        by_cases hlt4 : s < 4
        · apply cutP (A := FE m m' d s)
          · intro key
            simp (config := { maxSteps := 1000000 }) (disch := omega) only [go_sem, hlt3, hlt4, rd_ext hb, HP.rd_app hm, fg_ptr hb, leads_ptr hb, apart_ptr hb, rd_ext hb', HP.rd_app hm', fg_ptr hb', leads_ptr hb', apart_ptr hb']
            by_cases c1 : (m.ent d s).name = ⟨#[]⟩
            · simp (config := { maxSteps := 1000000 }) (disch := omega) only [go_sem, c1]; exact key (fun h => absurd c1 h)
            · by_cases c2 : (m'.ent d s).name = ⟨#[]⟩
              · simp (config := { maxSteps := 1000000 }) (disch := omega) only [go_sem, c1, c2]; exact key (fun _ h => absurd c2 h)
              · by_cases c3 : m.ent d s = m'.ent d s
                · have c4 : decide (m.ent d s = m'.ent d s) = true := decide_eq_true c3
                  simp (config := { maxSteps := 1000000 }) (disch := omega) only [go_sem, c1, c2, c4]
                  exact key (fun _ _ => c3)
                · simp (config := { maxSteps := 1000000 }) (disch := omega) only [go_sem, c1, c2, c3]
                  first | exact ⟨⟨false, rfl, by simp⟩, rfl⟩ | exact ⟨false, rfl, by simp⟩
          · intro hE
            refine W_forP 4 (fun t => ⟨[(0, .ptr p q tImage), (1, .ptr p' q' tImage), (14, .int .i64 d), (15, .int .i64 s), (16, .ptr (.stk cx.lvl 16) [] tEntry), (18, .int .i64 t)], [(16, ⟨tEntry, (m.ent d s).enc⟩)], h⟩) (fun t => ∀ i, i < t → FG m m' d s i) (by simp only [go_sem] <;> rfl) (fun i hi => by omega) fun t ht hp5 ih5 => ?_
            by_cases hlt5 : t < 4
            · simp (config := { maxSteps := 1000000 }) (disch := omega) only [go_sem, hlt3, hlt4, hlt5, rd_ext hb, HP.rd_app hm, fg_ptr hb, leads_ptr hb, apart_ptr hb, rd_ext hb', HP.rd_app hm', fg_ptr hb', leads_ptr hb', apart_ptr hb']
              by_cases c1 : t = s
              · subst c1
                simp (config := { maxSteps := 1000000 }) (disch := omega) only [go_sem]
                refine ih5 _ hlt5 (step_all hp5 (fun h => absurd rfl h)) ?_
                simp only [go_sem]
              · by_cases c2 : (m.ent d s).name = ⟨#[]⟩
                · simp (config := { maxSteps := 1000000 }) (disch := omega) only [go_sem, c2]
                  refine ih5 _ hlt5 (step_all hp5 (fun _ h => absurd c2 h)) ?_
                  simp only [go_sem]
                · by_cases c3 : (m'.ent d t).name = (m.ent d s).name
                  · simp (config := { maxSteps := 1000000 }) (disch := omega) only [go_sem, c2, c3, hlt3, hlt5, rd_ext hb, HP.rd_app hm, fg_ptr hb, leads_ptr hb, apart_ptr hb, rd_ext hb', HP.rd_app hm', fg_ptr hb', leads_ptr hb', apart_ptr hb']
                    first | exact ⟨⟨false, rfl, by simp⟩, rfl⟩ | exact ⟨false, rfl, by simp⟩
                  · simp (config := { maxSteps := 1000000 }) (disch := omega) only [go_sem, c2, c3, hlt3, hlt5, rd_ext hb, HP.rd_app hm, fg_ptr hb, leads_ptr hb, apart_ptr hb, rd_ext hb', HP.rd_app hm', fg_ptr hb', leads_ptr hb', apart_ptr hb']
                    refine ih5 _ hlt5 (step_all hp5 (fun _ _ => c3)) ?_
                    simp only [go_sem]
            · obtain rfl : t = 4 := by omega
              simp (config := { maxSteps := 1000000 }) (disch := omega) only [go_sem]
              refine ih4 _ hlt4 (step_all hp4 ⟨hE, hp5⟩) ?_
              simp only [go_sem]
        · obtain rfl : s = 4 := by omega
          simp (config := { maxSteps := 1000000 }) (disch := omega) only [go_sem]
          refine ih3 _ hlt3 (step_all hp3 hp4) ?_
          simp only [go_sem]
      · obtain rfl : d = 3 := by omega
        simp (config := { maxSteps := 1000000 }) (disch := omega) only [go_sem]
        first | exact ⟨⟨true, rfl, fun _ => ⟨hp, hp2, hp3⟩⟩, rfl⟩ | exact ⟨true, rfl, fun _ => ⟨hp, hp2, hp3⟩⟩
end
end Go.Mini
