/- A part of the proof: MendA. -/
import Derived.Test.YtpkndgkaecamlabMiniBc
namespace Go.Mini
set_option linter.unusedSimpArgs false
set_option linter.unusedVariables false
set_option maxHeartbeats 4000000
set_option maxRecDepth 100000

def FA (m m' : Img) (n : Nat) : Prop := (m.ino n).live = true → (m'.ino n).live = true → ¬(m.ino n).stamp = (m'.ino n).stamp → refs m' n = 0
def FB (m m' : Img) (n k : Nat) : Prop := ¬k = n → (m.ino n).live = true → (m'.ino k).live = true → ¬(m'.ino k).stamp = (m.ino n).stamp
def FC (m m' : Img) (n p k q : Nat) : Prop := (m'.ino k).live = true → (m'.ino k).prt q = (m.ino n).prt p → k = n ∧ q = p ∧ (m'.ino k).stamp = (m.ino n).stamp
def FCp (m m' : Img) (n p : Nat) : Prop := (m.ino n).live = true → 0 ≤ (m.ino n).prt p → ∀ k, k < 8 → ∀ q, q < 2 → FC m m' n p k q
def FI (m m' : Img) (n : Nat) : Prop := FA m m' n ∧ (∀ k, k < 8 → FB m m' n k) ∧ ∀ p, p < 2 → FCp m m' n p
def FD (m m' : Img) (x : Nat) : Prop := held m' x = true → (m.dat x).of = (m'.dat x).of
def FE (m m' : Img) (d s : Nat) : Prop := ¬(m.ent d s).name = ⟨#[]⟩ → ¬(m'.ent d s).name = ⟨#[]⟩ → m.ent d s = m'.ent d s
def FG (m m' : Img) (d s t : Nat) : Prop := ¬t = s → ¬(m.ent d s).name = ⟨#[]⟩ → ¬(m'.ent d t).name = (m.ent d s).name
def FSx9 (m m' : Img) (d s : Nat) : Prop := FE m m' d s ∧ ∀ t, t < 4 → FG m m' d s t
def Fits (m m' : Img) : Prop := (∀ n, n < 8 → FI m m' n) ∧ (∀ x, x < 9 → FD m m' x) ∧ ∀ d, d < 3 → ∀ s, s < 4 → FSx9 m m' d s
theorem cutP {A G P : Prop} (f : (A → G) → P) (k : A → G) : P := f k
section
variable {cx : Cx} {h : HP} {p p' : Id} {q q' : List Nat} {m m' : Img}
theorem fit_ok (hb : p.below cx.lvl) (hm : h.rd p q = some m.enc) (hb' : p'.below cx.lvl) (hm' : h.rd p' q' = some m'.enc) :
    Ok tblB cx Fn.eiderdownlaw_fit (St.enter [.ptr p q tImage, .ptr p' q' tImage] h) fun v h' => (∃ b, v = .bool b ∧ (b = true → Fits m m')) ∧ h' = h := by
  rw [Ok_eq]
  simp (config := { maxSteps := 1000000 }) (disch := omega) only [go_sem]
  refine W_forP 8 (fun n => ⟨[(0, .ptr p q tImage), (1, .ptr p' q' tImage), (5, .int .i64 n)], [], h⟩) (fun n => ∀ i, i < n → FI m m' i) (by simp only [go_sem] <;> rfl) (fun i hi => by omega) fun n hn hp ih => ?_
  by_cases hlt : n < 8
  · apply cutP (A := FA m m' n)
    · intro key
      simp (config := { maxSteps := 1000000 }) (disch := omega) only [go_sem, hlt, rd_ext hb, HP.rd_app hm, fg_ptr hb, leads_ptr hb, apart_ptr hb, rd_ext hb', HP.rd_app hm', fg_ptr hb', leads_ptr hb', apart_ptr hb']
      cases c1 : (m.ino n).live with
      | false => simp (config := { maxSteps := 1000000 }) (disch := omega) only [go_sem]; exact key (fun h => by rw [c1] at h; exact absurd h (by simp))
      | true =>
        cases c2 : (m'.ino n).live with
        | false => simp (config := { maxSteps := 1000000 }) (disch := omega) only [go_sem, c2]; exact key (fun _ h => by rw [c2] at h; exact absurd h (by simp))
        | true =>
          by_cases c3 : (m.ino n).stamp = (m'.ino n).stamp
          · simp (config := { maxSteps := 1000000 }) (disch := omega) only [go_sem, c2, c3]; exact key (fun _ _ h => absurd c3 h)
          · simp (config := { maxSteps := 1000000 }) (disch := omega) only [go_sem, c2, c3]
            refine W_callp rfl ⟨rfl, rfl⟩ (by simp only [go_sem]; exact up (Leads_ok (m := m') hb'.succ (by simp only [HP.push_rd_ext hb', hm']))) ?_
            simp (config := { maxSteps := 1000000 }) (disch := omega) only [go_sem, c2, c3]
            by_cases c4 : 0 < refs m' n
            · simp (config := { maxSteps := 1000000 }) (disch := omega) only [go_sem, c4]; first | exact ⟨⟨false, rfl, by simp⟩, rfl⟩ | exact ⟨false, rfl, by simp⟩
            · simp (config := { maxSteps := 1000000 }) (disch := omega) only [go_sem, c4]; exact key (fun _ _ _ => by omega)
    · intro hA
      refine W_forP 8 (fun k => ⟨[(0, .ptr p q tImage), (1, .ptr p' q' tImage), (5, .int .i64 n), (6, .ptr (.stk cx.lvl 6) [] tInode), (8, .int .i64 k)], [(6, ⟨tInode, (m.ino n).enc⟩)], h⟩) (fun k => ∀ i, i < k → FB m m' n i) (by simp only [go_sem] <;> rfl) (fun i hi => by omega) fun k hk hp2 ih2 => ?_
      by_cases hlt2 : k < 8
      · simp (config := { maxSteps := 1000000 }) (disch := omega) only [go_sem, hlt, hlt2, rd_ext hb, HP.rd_app hm, fg_ptr hb, leads_ptr hb, apart_ptr hb, rd_ext hb', HP.rd_app hm', fg_ptr hb', leads_ptr hb', apart_ptr hb']
        by_cases c1 : k = n
        · subst c1
          simp (config := { maxSteps := 1000000 }) (disch := omega) only [go_sem]
          refine ih2 _ hlt2 (step_all hp2 (fun h => absurd rfl h)) ?_
          simp only [go_sem]
        · cases c2 : (m.ino n).live with
          | false =>
            simp (config := { maxSteps := 1000000 }) (disch := omega) only [go_sem, c2]
            refine ih2 _ hlt2 (step_all hp2 (fun _ h => by rw [c2] at h; exact absurd h (by simp))) ?_
            simp only [go_sem]
          | true =>
            simp (config := { maxSteps := 1000000 }) (disch := omega) only [go_sem, c2, hlt2, rd_ext hb, HP.rd_app hm, fg_ptr hb, leads_ptr hb, apart_ptr hb, rd_ext hb', HP.rd_app hm', fg_ptr hb', leads_ptr hb', apart_ptr hb']
            cases c3 : (m'.ino k).live with
            | false =>
              simp (config := { maxSteps := 1000000 }) (disch := omega) only [go_sem, c3]
              refine ih2 _ hlt2 (step_all hp2 (fun _ _ h => by rw [c3] at h; exact absurd h (by simp))) ?_
              simp only [go_sem]
            | true =>
              by_cases c4 : (m'.ino k).stamp = (m.ino n).stamp
              · simp (config := { maxSteps := 1000000 }) (disch := omega) only [go_sem, c2, c3, c4, hlt2, rd_ext hb, HP.rd_app hm, fg_ptr hb, leads_ptr hb, apart_ptr hb, rd_ext hb', HP.rd_app hm', fg_ptr hb', leads_ptr hb', apart_ptr hb']
                first | exact ⟨⟨false, rfl, by simp⟩, rfl⟩ | exact ⟨false, rfl, by simp⟩
              · simp (config := { maxSteps := 1000000 }) (disch := omega) only [go_sem, c2, c3, c4, hlt2, rd_ext hb, HP.rd_app hm, fg_ptr hb, leads_ptr hb, apart_ptr hb, rd_ext hb', HP.rd_app hm', fg_ptr hb', leads_ptr hb', apart_ptr hb']
                refine ih2 _ hlt2 (step_all hp2 (fun _ _ _ => c4)) ?_
                simp only [go_sem]
      · obtain rfl : k = 8 := by omega
        simp (config := { maxSteps := 1000000 }) (disch := omega) only [go_sem]
        refine W_forP 2 (fun r => ⟨[(0, .ptr p q tImage), (1, .ptr p' q' tImage), (5, .int .i64 n), (6, .ptr (.stk cx.lvl 6) [] tInode), (9, .int .i64 r)], [(6, ⟨tInode, (m.ino n).enc⟩)], h⟩) (fun r => ∀ i, i < r → FCp m m' n i) (by simp only [go_sem] <;> rfl) (fun i hi => by omega) fun r hr hp3 ih3 => ?_
        by_cases hlt3 : r < 2
        · simp (config := { maxSteps := 1000000 }) (disch := omega) only [go_sem, hlt3]
          cases c1 : (m.ino n).live with
          | false =>
            simp (config := { maxSteps := 1000000 }) (disch := omega) only [go_sem, c1]
            refine ih3 _ hlt3 (step_all hp3 (fun h => by rw [c1] at h; exact absurd h (by simp))) ?_
            simp only [go_sem]
          | true =>
            by_cases c2 : (m.ino n).prt r < 0
            · simp (config := { maxSteps := 1000000 }) (disch := omega) only [go_sem, c1, c2]
              refine ih3 _ hlt3 (step_all hp3 (fun _ h => by omega)) ?_
              simp only [go_sem]
            · simp (config := { maxSteps := 1000000 }) (disch := omega) only [go_sem, c1, c2]
              refine W_forP 8 (fun k => ⟨[(0, .ptr p q tImage), (1, .ptr p' q' tImage), (5, .int .i64 n), (6, .ptr (.stk cx.lvl 6) [] tInode), (9, .int .i64 r), (10, .int .i64 ((m.ino n).prt r)), (11, .int .i64 k)], [(6, ⟨tInode, (m.ino n).enc⟩)], h⟩) (fun k => ∀ i, i < k → ∀ q, q < 2 → FC m m' n r i q) (by simp only [go_sem] <;> rfl) (fun i hi => by omega) fun k hk4 hp4 ih4 => ?_
              by_cases hlt4 : k < 8
              · simp (config := { maxSteps := 1000000 }) (disch := omega) only [go_sem]
                refine W_forP 2 (fun a => ⟨[(0, .ptr p q tImage), (1, .ptr p' q' tImage), (5, .int .i64 n), (6, .ptr (.stk cx.lvl 6) [] tInode), (9, .int .i64 r), (10, .int .i64 ((m.ino n).prt r)), (11, .int .i64 k), (12, .int .i64 a)], [(6, ⟨tInode, (m.ino n).enc⟩)], h⟩) (fun a => ∀ i, i < a → FC m m' n r k i) (by simp only [go_sem] <;> rfl) (fun i hi => by omega) fun a ha hp5 ih5 => ?_
                by_cases hlt5 : a < 2
                · simp (config := { maxSteps := 1000000 }) (disch := omega) only [go_sem, hlt4, hlt5, rd_ext hb, HP.rd_app hm, fg_ptr hb, leads_ptr hb, apart_ptr hb, rd_ext hb', HP.rd_app hm', fg_ptr hb', leads_ptr hb', apart_ptr hb']
                  cases d1 : (m'.ino k).live with
                  | false =>
                    simp (config := { maxSteps := 1000000 }) (disch := omega) only [go_sem, d1]
                    refine ih5 _ hlt5 (step_all hp5 (fun h => by rw [d1] at h; exact absurd h (by simp))) ?_
                    simp only [go_sem]
                  | true =>
                    by_cases d2 : (m'.ino k).prt a = (m.ino n).prt r
                    · by_cases d3 : k = n
                      · by_cases d4 : a = r
                        · by_cases d5 : (m'.ino k).stamp = (m.ino n).stamp
                          · simp (config := { maxSteps := 1000000 }) (disch := omega) only [go_sem, d1, d2, hlt4, hlt5, rd_ext hb, HP.rd_app hm, fg_ptr hb, leads_ptr hb, apart_ptr hb, rd_ext hb', HP.rd_app hm', fg_ptr hb', leads_ptr hb', apart_ptr hb']
                            refine ih5 _ hlt5 (step_all hp5 (fun _ _ => ⟨d3, d4, d5⟩)) ?_
                            simp only [go_sem]
                          · simp (config := { maxSteps := 1000000 }) (disch := omega) only [go_sem, d1, d2, d5, hlt4, hlt5, rd_ext hb, HP.rd_app hm, fg_ptr hb, leads_ptr hb, apart_ptr hb, rd_ext hb', HP.rd_app hm', fg_ptr hb', leads_ptr hb', apart_ptr hb']
                            first | exact ⟨⟨false, rfl, by simp⟩, rfl⟩ | exact ⟨false, rfl, by simp⟩
                        · simp (config := { maxSteps := 1000000 }) (disch := omega) only [go_sem, d1, d2, hlt4, hlt5, rd_ext hb, HP.rd_app hm, fg_ptr hb, leads_ptr hb, apart_ptr hb, rd_ext hb', HP.rd_app hm', fg_ptr hb', leads_ptr hb', apart_ptr hb']
                          first | exact ⟨⟨false, rfl, by simp⟩, rfl⟩ | exact ⟨false, rfl, by simp⟩
                      · simp (config := { maxSteps := 1000000 }) (disch := omega) only [go_sem, d1, d2, hlt4, hlt5, rd_ext hb, HP.rd_app hm, fg_ptr hb, leads_ptr hb, apart_ptr hb, rd_ext hb', HP.rd_app hm', fg_ptr hb', leads_ptr hb', apart_ptr hb']
                        first | exact ⟨⟨false, rfl, by simp⟩, rfl⟩ | exact ⟨false, rfl, by simp⟩
                    · simp (config := { maxSteps := 1000000 }) (disch := omega) only [go_sem, d1, d2, hlt4, hlt5, rd_ext hb, HP.rd_app hm, fg_ptr hb, leads_ptr hb, apart_ptr hb, rd_ext hb', HP.rd_app hm', fg_ptr hb', leads_ptr hb', apart_ptr hb']
                      refine ih5 _ hlt5 (step_all hp5 (fun _ h => absurd h d2)) ?_
                      simp only [go_sem]
                · obtain rfl : a = 2 := by omega
                  simp (config := { maxSteps := 1000000 }) (disch := omega) only [go_sem]
                  refine ih4 _ hlt4 (step_all hp4 hp5) ?_
                  simp only [go_sem]
              · obtain rfl : k = 8 := by omega
                simp (config := { maxSteps := 1000000 }) (disch := omega) only [go_sem]
                refine ih3 _ hlt3 (step_all hp3 (fun _ _ => hp4)) ?_
                simp only [go_sem]
        · obtain rfl : r = 2 := by omega
          simp (config := { maxSteps := 1000000 }) (disch := omega) only [go_sem]
          refine ih _ hlt (step_all hp ⟨hA, hp2, hp3⟩) ?_
          simp only [go_sem]
  · obtain rfl : n = 8 := by omega
    simp (config := { maxSteps := 1000000 }) (disch := omega) only [go_sem]
    refine W_forP 9 (fun x => ⟨[(0, .ptr p q tImage), (1, .ptr p' q' tImage), (13, .int .i64 x)], [], h⟩) (fun x => ∀ i, i < x → FD m m' i) (by simp only [go_sem] <;> rfl) (fun i hi => by omega) fun x hx hp2 ih2 => ?_
    by_cases hlt2 : x < 9
    · simp (config := { maxSteps := 1000000 }) (disch := omega) only [go_sem, rd_ext hb, HP.rd_app hm, fg_ptr hb, leads_ptr hb, apart_ptr hb, rd_ext hb', HP.rd_app hm', fg_ptr hb', leads_ptr hb', apart_ptr hb']
      refine W_callp rfl ⟨rfl, rfl⟩ (by simp only [go_sem]; exact up (Held_ok (m := m') hb'.succ (by simp only [HP.push_rd_ext hb', hm']))) ?_
      simp (config := { maxSteps := 1000000 }) (disch := omega) only [go_sem]
      cases c1 : held m' x with
      | false =>
        simp (config := { maxSteps := 1000000 }) (disch := omega) only [go_sem, c1]
        refine ih2 _ hlt2 (step_all hp2 (fun h => by rw [c1] at h; exact absurd h (by simp))) ?_
        simp only [go_sem]
      | true =>
        by_cases c2 : (m.dat x).of = (m'.dat x).of
        · simp (config := { maxSteps := 1000000 }) (disch := omega) only [go_sem, c1, c2, hlt2, rd_ext hb, HP.rd_app hm, fg_ptr hb, leads_ptr hb, apart_ptr hb, rd_ext hb', HP.rd_app hm', fg_ptr hb', leads_ptr hb', apart_ptr hb']
          refine ih2 _ hlt2 (step_all hp2 (fun _ => c2)) ?_
          simp only [go_sem]
        · simp (config := { maxSteps := 1000000 }) (disch := omega) only [go_sem, c1, c2, hlt2, rd_ext hb, HP.rd_app hm, fg_ptr hb, leads_ptr hb, apart_ptr hb, rd_ext hb', HP.rd_app hm', fg_ptr hb', leads_ptr hb', apart_ptr hb']
          first | exact ⟨⟨false, rfl, by simp⟩, rfl⟩ | exact ⟨false, rfl, by simp⟩
    · obtain rfl : x = 9 := by omega
      simp (config := { maxSteps := 1000000 }) (disch := omega) only [go_sem]
      refine W_forP 3 (fun d => ⟨[(0, .ptr p q tImage), (1, .ptr p' q' tImage), (14, .int .i64 d)], [], h⟩) (fun d => ∀ i, i < d → ∀ s, s < 4 → FSx9 m m' i s) (by simp only [go_sem] <;> rfl) (fun i hi => by omega) fun d hd hp3 ih3 => ?_
      by_cases hlt3 : d < 3
      · simp (config := { maxSteps := 1000000 }) (disch := omega) only [go_sem]
        refine W_forP 4 (fun s => ⟨[(0, .ptr p q tImage), (1, .ptr p' q' tImage), (14, .int .i64 d), (15, .int .i64 s)], [], h⟩) (fun s => ∀ i, i < s → FSx9 m m' d i) (by simp only [go_sem] <;> rfl) (fun i hi => by omega) fun s hs hp4 ih4 => ?_
        by_cases hlt4 : s < 4
        · apply cutP (A := FE m m' d s)
          · intro key
            simp (config := { maxSteps := 1000000 }) (disch := omega) only [go_sem, hlt3, hlt4, rd_ext hb, HP.rd_app hm, fg_ptr hb, leads_ptr hb, apart_ptr hb, rd_ext hb', HP.rd_app hm', fg_ptr hb', leads_ptr hb', apart_ptr hb']
            by_cases c1 : (m.ent d s).name = ⟨#[]⟩
            · simp (config := { maxSteps := 1000000 }) (disch := omega) only [go_sem, c1]; exact key (fun h => absurd c1 h)
            · by_cases c2 : (m'.ent d s).name = ⟨#[]⟩
              · simp (config := { maxSteps := 1000000 }) (disch := omega) only [go_sem, c1, c2]; exact key (fun _ h => absurd c2 h)
              · by_cases c3 : m.ent d s = m'.ent d s
                · have c4 : decide (m.ent d s = m'.ent d s) = true := decide_eq_true c3
                  simp (config := { maxSteps := 1000000 }) (disch := omega) only [go_sem, c1, c2, c4]
                  exact key (fun _ _ => c3)
                · simp (config := { maxSteps := 1000000 }) (disch := omega) only [go_sem, c1, c2, c3]
                  first | exact ⟨⟨false, rfl, by simp⟩, rfl⟩ | exact ⟨false, rfl, by simp⟩
          · intro hE
            refine W_forP 4 (fun t => ⟨[(0, .ptr p q tImage), (1, .ptr p' q' tImage), (14, .int .i64 d), (15, .int .i64 s), (16, .ptr (.stk cx.lvl 16) [] tEntry), (18, .int .i64 t)], [(16, ⟨tEntry, (m.ent d s).enc⟩)], h⟩) (fun t => ∀ i, i < t → FG m m' d s i) (by simp only [go_sem] <;> rfl) (fun i hi => by omega) fun t ht hp5 ih5 => ?_
            by_cases hlt5 : t < 4
            · simp (config := { maxSteps := 1000000 }) (disch := omega) only [go_sem, hlt3, hlt4, hlt5, rd_ext hb, HP.rd_app hm, fg_ptr hb, leads_ptr hb, apart_ptr hb, rd_ext hb', HP.rd_app hm', fg_ptr hb', leads_ptr hb', apart_ptr hb']
              by_cases c1 : t = s
              · subst c1
                simp (config := { maxSteps := 1000000 }) (disch := omega) only [go_sem]
                refine ih5 _ hlt5 (step_all hp5 (fun h => absurd rfl h)) ?_
                simp only [go_sem]
              · by_cases c2 : (m.ent d s).name = ⟨#[]⟩
                · simp (config := { maxSteps := 1000000 }) (disch := omega) only [go_sem, c2]
                  refine ih5 _ hlt5 (step_all hp5 (fun _ h => absurd c2 h)) ?_
                  simp only [go_sem]
                · by_cases c3 : (m'.ent d t).name = (m.ent d s).name
                  · simp (config := { maxSteps := 1000000 }) (disch := omega) only [go_sem, c2, c3, hlt3, hlt5, rd_ext hb, HP.rd_app hm, fg_ptr hb, leads_ptr hb, apart_ptr hb, rd_ext hb', HP.rd_app hm', fg_ptr hb', leads_ptr hb', apart_ptr hb']
                    first | exact ⟨⟨false, rfl, by simp⟩, rfl⟩ | exact ⟨false, rfl, by simp⟩
                  · simp (config := { maxSteps := 1000000 }) (disch := omega) only [go_sem, c2, c3, hlt3, hlt5, rd_ext hb, HP.rd_app hm, fg_ptr hb, leads_ptr hb, apart_ptr hb, rd_ext hb', HP.rd_app hm', fg_ptr hb', leads_ptr hb', apart_ptr hb']
                    refine ih5 _ hlt5 (step_all hp5 (fun _ _ => c3)) ?_
                    simp only [go_sem]
            · obtain rfl : t = 4 := by omega
              simp (config := { maxSteps := 1000000 }) (disch := omega) only [go_sem]
              refine ih4 _ hlt4 (step_all hp4 ⟨hE, hp5⟩) ?_
              simp only [go_sem]
        · obtain rfl : s = 4 := by omega
          simp (config := { maxSteps := 1000000 }) (disch := omega) only [go_sem]
          refine ih3 _ hlt3 (step_all hp3 hp4) ?_
          simp only [go_sem]
      · obtain rfl : d = 3 := by omega
        simp (config := { maxSteps := 1000000 }) (disch := omega) only [go_sem]
        first | exact ⟨⟨true, rfl, fun _ => ⟨hp, hp2, hp3⟩⟩, rfl⟩ | exact ⟨true, rfl, fun _ => ⟨hp, hp2, hp3⟩⟩
end
end Go.Mini

namespace Go.Mini
set_option linter.unusedSimpArgs false
set_option linter.unusedVariables false
set_option maxHeartbeats 4000000
set_option maxRecDepth 100000

theorem inoFault_of {m : Img} {n : Nat} (h1 : (m.ino n).live = true) (h2 : 1 ≤ (m.ino n).stamp) (h3 : (refs m n : Int) ≤ (m.ino n).links) (h4 : ∀ p, p < 2 → partFault m (m.ino n) p = 0) : inoFault m n = 0 := by
  simp only [inoFault, h1, Bool.true_eq_false, if_false]
  rw [if_neg (by omega)]
  exact firstI_zero.2 h4
theorem partFault_of {m : Img} {i : Ino} {p : Nat} (h : i.prt p = -1 ∨ (0 ≤ i.prt p ∧ i.prt p < 9 ∧ (m.dat (i.prt p).toNat).of = i.stamp)) : partFault m i p = 0 := by
  rcases h with h | ⟨h0, h9, he⟩
  · simp [partFault, h]
  · simp only [partFault]
    rw [if_neg (by omega), if_neg (fun h => h.2 he)]
theorem dead_none {m : Img} (hc : check m = 0) {n : Nat} (hn : n < 8) (hl : (m.ino n).live = false) : m.ino n = Ino.none := by
  have h := (check_parts hc).2.1 n hn
  simp only [inoFault, hl, if_true] at h
  split at h
  · assumption
  · exact absurd h (by decide)
theorem inoFault_dead {m : Img} {n : Nat} (h : m.ino n = Ino.none) : inoFault m n = 0 := by simp [inoFault, h, show Ino.none.live = false from rfl]
theorem refs_pos {m : Img} {d s : Nat} (hd : d < 3) (hs : s < 4) {i : Int} (h : leads m d s i = true) : 0 < refs m i := by
  have g2 : refsRow m i d 4 ≤ refs m i := sumN_ge (f := fun d => refsRow m i d 4) hd
  have g3 : b2n (leads m d s i) ≤ refsRow m i d 4 := sumN_ge (f := fun t => b2n (leads m d t i)) hs
  rw [h] at g3
  simp only [b2n, if_true] at g3
  omega
theorem leads_at {m : Img} {d s : Nat} (hn : ¬(m.ent d s).name = ⟨#[]⟩) (h0 : 0 ≤ (m.ent d s).ino) : leads m d s ((m.ent d s).ino.toNat : Nat) = true := by
  have : ((m.ent d s).ino.toNat : Int) = (m.ent d s).ino := by omega
  simp [leads, hn, this]
/-- Where an inode as it may lie there comes from. -/
theorem inodeAs_live_cases {m m' : Img} {n : Nat} (h : (inodeAs m m' n).live = true) :
    ((m.ino n).live = true ∧ (inodeAs m m' n).stamp = (m.ino n).stamp ∧ ∀ p, p < 2 → (inodeAs m m' n).prt p = part m m' n p) ∨
    ((m.ino n).live = false ∧ (m'.ino n).live = true ∧ 0 < both m m' n ∧ (inodeAs m m' n).stamp = (m'.ino n).stamp ∧ ∀ p, (inodeAs m m' n).prt p = (m'.ino n).prt p) := by
  cases hl : (m.ino n).live with
  | true =>
    left
    refine ⟨rfl, by simp only [inodeAs, if_pos hl], fun p hp => ?_⟩
    simp only [inodeAs, if_pos hl, Ino.prt, hp, dite_true]
    obtain rfl | rfl : p = 0 ∨ p = 1 := by omega
    all_goals rfl
  | false =>
    right
    have hl' : ¬(m.ino n).live = true := by rw [hl]; simp
    by_cases hd : (m'.ino n).live = true ∧ 0 < both m m' n
    · have e : inodeAs m m' n = { m'.ino n with links := both m m' n } := by simp only [inodeAs, if_neg hl', if_pos hd]
      rw [e]; exact ⟨rfl, hd.1, hd.2, rfl, fun p => rfl⟩
    · have e : inodeAs m m' n = Ino.none := by simp only [inodeAs, if_neg hl', if_neg hd]
      rw [e] at h; simp [Ino.none] at h
theorem part_cases (m m' : Img) (n p : Nat) : part m m' n p = -1 ∨ (part m m' n p = (m.ino n).prt p ∧ 0 ≤ (m.ino n).prt p ∧ (m.ino n).prt p < 9 ∧ (m'.dat ((m.ino n).prt p).toNat).of = (m.ino n).stamp) ∨
    (part m m' n p = (m'.ino n).prt p ∧ (m'.ino n).live = true ∧ (m'.ino n).stamp = (m.ino n).stamp) := by
  by_cases hx : (m.ino n).prt p < 0 ∨ 9 ≤ (m.ino n).prt p
  · left; simp only [part, if_pos hx]
  by_cases hd : (m'.dat ((m.ino n).prt p).toNat).of = (m.ino n).stamp
  · right; left
    exact ⟨by simp only [part, if_neg hx, if_pos hd], by omega, by omega, hd⟩
  by_cases ho : (m'.ino n).live = true ∧ (m'.ino n).stamp = (m.ino n).stamp
  · right; right
    exact ⟨by simp only [part, if_neg hx, if_neg hd, if_pos ho], ho⟩
  · left; simp only [part, if_neg hx, if_neg hd, if_neg ho]
theorem wrInodes_ino' (m m' : Img) (n : Nat) (hn : n ≤ 4) (i : Nat) : (wrInodes m m' n 4).ino i = if n ≤ i ∧ i < n + 4 then inodeAs m m' i else m'.ino i := by
  have key : ∀ k, k ≤ 4 → (wrInodes m m' n k).ino i = if n ≤ i ∧ i < n + k then inodeAs m m' i else m'.ino i := by
    intro k
    induction k with
    | zero => intro _; rw [if_neg (by omega)]; rfl
    | succ k ih =>
      intro hk
      rw [wrInodes, ino_setIno, ih (by omega)]
      by_cases e : n + k = i
      · subst e; rw [if_pos ⟨rfl, by omega⟩, if_pos (by omega)]
      · rw [if_neg (by omega)]
        by_cases h : n ≤ i ∧ i < n + k
        · rw [if_pos h, if_pos (by omega)]
        · rw [if_neg h, if_neg (by omega)]
  exact key 4 (Nat.le_refl _)
theorem wrInodes_dat (m m' : Img) (n x : Nat) : ∀ k, (wrInodes m m' n k).dat x = m'.dat x
  | 0 => rfl
  | k + 1 => by rw [wrInodes, dat_setIno, wrInodes_dat m m' n x k]

theorem mends_data {m m' : Img} (hc : check m' = 0) (hf : Fits m m') {x : Nat} (hx : x < 9) : check (m'.setDat x (m.dat x)) = 0 := by
  obtain ⟨h1, h2, h3⟩ := check_parts hc
  have hR : ∀ i, refs (m'.setDat x (m.dat x)) i = refs m' i := fun i => refs_congr (fun d s => ent_setDat ..) i
  refine check_of (fun d hd s hs => ?_) (fun n hn => ?_) ?_
  · have e' : (m'.setDat x (m.dat x)).ent d s = m'.ent d s := ent_setDat ..
    rcases entry_parts (h1 d hd s hs) with e0 | ⟨a1, a2, a3, a4, a5, a6, a7⟩
    · rw [e0] at e'; simp [entryFault, e', show Ent.zero.name = ⟨#[]⟩ from rfl]
    · exact entry_of (by rw [e']; exact a1) (by rw [e']; exact a2) (by refine Eq.trans (anyN_congr fun k _ => ?_) a3; rw [decide_eq_decide]; simp only [ent_setDat]) (by rw [e']; exact a4) (by rw [e']; exact a5) (by rw [e', ino_setDat]; exact a6) (by rw [e', ino_setDat]; exact a7)
  · cases hl : (m'.ino n).live with
    | false => exact inoFault_dead (by rw [ino_setDat]; exact dead_none hc hn hl)
    | true =>
      obtain ⟨p1, p2, p3⟩ := ino_parts hc hn hl
      refine inoFault_of (by rw [ino_setDat]; exact hl) (by rw [ino_setDat]; exact p1) (by rw [ino_setDat, hR]; exact p2) fun p hp => ?_
      rw [ino_setDat]
      rcases part_dat (p3 p hp) with hm1 | ⟨h0, h9, ho⟩
      · exact partFault_of (.inl hm1)
      · refine partFault_of (.inr ⟨h0, h9, ?_⟩)
        rw [dat_setDat]
        split
        · rename_i hxe
          have hheld : held m' (x : Int) = true := by
            refine anyN_at hn ?_
            have : (m'.ino n).prt p = (x : Int) := by omega
            obtain rfl | rfl : p = 0 ∨ p = 1 := by omega
            all_goals simp [hl, this]
          have := hf.2.1 x hx hheld
          rw [this, hxe.1]; exact ho
        · exact ho
  · rw [← h3]; exact twice_ino fun n => ino_setDat ..
theorem mends_inodes {m m' : Img} (hc : check m' = 0) (he : exact m = true) (hf : Fits m m') {n0 : Nat} (hn0 : n0 ≤ 4) : check (wrInodes m m' n0 4) = 0 := by
  obtain ⟨hcm, hem⟩ := exact_parts he
  obtain ⟨h1, h2, h3⟩ := check_parts hc
  obtain ⟨g1, g2, g3⟩ := check_parts hcm
  have hE : ∀ d s, (wrInodes m m' n0 4).ent d s = m'.ent d s := fun d s => wrInodes_ent m m' n0 d s 4
  have hI := wrInodes_ino' m m' n0 hn0
  have hD := fun x => wrInodes_dat m m' n0 x 4
  have hR : ∀ i, refs (wrInodes m m' n0 4) i = refs m' i := fun i => refs_congr hE i
  generalize wrInodes m m' n0 4 = X at *
  -- what each live inode is
  have hL : ∀ n, n < 8 → (X.ino n).live = true → ((m.ino n).live = true ∧ (X.ino n).stamp = (m.ino n).stamp ∧ (refs m' n : Int) ≤ (X.ino n).links ∧ ∀ p, p < 2 → (X.ino n).prt p = part m m' n p) ∨
      ((m'.ino n).live = true ∧ (X.ino n).stamp = (m'.ino n).stamp ∧ (refs m' n : Int) ≤ (X.ino n).links ∧ ∀ p, (X.ino n).prt p = (m'.ino n).prt p) := by
    intro n hn hl
    rw [hI] at hl ⊢
    split at hl
    · rename_i hr
      rw [if_pos hr]
      have hlk : (refs m' n : Int) ≤ (inodeAs m m' n).links := by
        rw [inodeAs_links m m' n hl, both_comm]; exact Int.ofNat_le.2 (refs_le_both m' m n)
      rcases inodeAs_live_cases hl with ⟨a1, a2, a3⟩ | ⟨_, a2, _, a4, a5⟩
      · exact .inl ⟨a1, a2, hlk, a3⟩
      · exact .inr ⟨a2, a4, hlk, a5⟩
    · rename_i hr
      rw [if_neg hr]
      exact .inr ⟨hl, rfl, (ino_parts hc hn hl).2.1, fun _ => rfl⟩
  refine check_of (fun d hd s hs => ?_) (fun n hn => ?_) ?_
  · have e' := hE d s
    rcases entry_parts (h1 d hd s hs) with e0 | ⟨a1, a2, a3, a4, a5, a6, a7⟩
    · rw [e0] at e'; simp [entryFault, e', show Ent.zero.name = ⟨#[]⟩ from rfl]
    · have hj : (m'.ent d s).ino.toNat < 8 := by omega
      have hpos := refs_pos hd hs (leads_at a1 a4)
      have key : (X.ino (m'.ent d s).ino.toNat).live = true ∧ (X.ino (m'.ent d s).ino.toNat).stamp = (m'.ent d s).stamp := by
        rw [hI]
        split
        · cases hl : (m.ino (m'.ent d s).ino.toNat).live with
          | true =>
            refine ⟨by simp [inodeAs, hl], ?_⟩
            simp only [inodeAs, if_pos hl]
            by_cases hst : (m.ino (m'.ent d s).ino.toNat).stamp = (m'.ino (m'.ent d s).ino.toNat).stamp
            · rw [hst]; exact a7
            · have := (hf.1 _ hj).1 hl a6 hst; omega
          | false =>
            have hl' : ¬(m.ino (m'.ent d s).ino.toNat).live = true := by rw [hl]; simp
            have hbp : 0 < both m m' ((m'.ent d s).ino.toNat : Nat) := by
              have := refs_le_both m' m ((m'.ent d s).ino.toNat : Nat)
              rw [both_comm] at this; omega
            simp only [inodeAs, if_neg hl', if_pos (And.intro a6 hbp)]
            exact ⟨a6, a7⟩
        · exact ⟨a6, a7⟩
      exact entry_of (by rw [e']; exact a1) (by rw [e']; exact a2) (by simpa only [hE] using a3) (by rw [e']; exact a4) (by rw [e']; exact a5) (by rw [e']; exact key.1) (by rw [e']; exact key.2)
  · cases hl : (X.ino n).live with
    | false =>
      have : X.ino n = Ino.none := by
        rw [hI] at hl ⊢
        split at hl
        · rename_i hr; rw [if_pos hr]; exact (inodeAs_dead m m' n hl).1
        · rename_i hr; rw [if_neg hr]; exact dead_none hc hn hl
      exact inoFault_dead this
    | true =>
      rcases hL n hn hl with ⟨a1, a2, a3, a4⟩ | ⟨a1, a2, a3, a4⟩
      · obtain ⟨p1, _, p3⟩ := ino_parts hcm hn a1
        refine inoFault_of hl (by rw [a2]; exact p1) (by rw [hR]; exact a3) fun p hp => partFault_of ?_
        rw [a4 p hp, a2]
        rcases part_cases m m' n p with c | ⟨c1, c2, c3, c4⟩ | ⟨c1, c2, c3⟩
        · exact .inl c
        · rw [c1]; right; exact ⟨c2, c3, by rw [hD]; exact c4⟩
        · rw [c1]
          obtain ⟨_, _, q3⟩ := ino_parts hc hn c2
          rcases part_dat (q3 p hp) with r | ⟨r1, r2, r3⟩
          · exact .inl r
          · right; exact ⟨r1, r2, by rw [hD, r3, c3]⟩
      · obtain ⟨p1, _, p3⟩ := ino_parts hc hn a1
        refine inoFault_of hl (by rw [a2]; exact p1) (by rw [hR]; exact a3) fun p hp => partFault_of ?_
        rw [a4 p, a2]
        rcases part_dat (p3 p hp) with r | ⟨r1, r2, r3⟩
        · exact .inl r
        · right; exact ⟨r1, r2, by rw [hD]; exact r3⟩
  · -- none twice
    rw [← twiceR_eq]
    unfold twiceR
    rw [anyN_false]
    intro n hn
    rw [anyN_false]
    intro k hk
    rcases hb : pairBad X n k with _ | _
    · rfl
    · exfalso
      rw [pairBad_iff] at hb
      obtain ⟨b1, b2, b3⟩ := hb
      have badm : ∀ {p q}, p < 2 → q < 2 → (n ≠ k ∨ p ≠ q) → (m.ino n).live = true → (m.ino k).live = true → 0 ≤ (m.ino n).prt p → (m.ino n).prt p = (m.ino k).prt q → False := by
        intro p q hp hq hne hl hl' h0 h
        have := twice_at hn hk (pairBad_iff.2 ⟨hl, hl', .inr ⟨p, q, hp, hq, hne, h0, h⟩⟩)
        rw [g3] at this; exact absurd this (by simp)
      have badd : ∀ {p q}, p < 2 → q < 2 → (n ≠ k ∨ p ≠ q) → (m'.ino n).live = true → (m'.ino k).live = true → 0 ≤ (m'.ino n).prt p → (m'.ino n).prt p = (m'.ino k).prt q → False := by
        intro p q hp hq hne hl hl' h0 h
        have := twice_at hn hk (pairBad_iff.2 ⟨hl, hl', .inr ⟨p, q, hp, hq, hne, h0, h⟩⟩)
        rw [h3] at this; exact absurd this (by simp)
      rcases b3 with ⟨hne, hst⟩ | ⟨p, q, hp, hq, hne, h0, hpq⟩
      · rcases hL n hn b1 with ⟨a1, a2, _, _⟩ | ⟨a1, a2, _, _⟩ <;> rcases hL k hk b2 with ⟨c1, c2, _, _⟩ | ⟨c1, c2, _, _⟩
        · have := twice_at hn hk (pairBad_iff.2 ⟨a1, c1, .inl ⟨hne, by rw [← a2, ← c2]; exact hst⟩⟩)
          rw [g3] at this; exact absurd this (by simp)
        · exact (hf.1 n hn).2.1 k hk (fun h => hne h.symm) a1 c1 (by rw [← a2, ← c2]; exact hst.symm)
        · exact (hf.1 k hk).2.1 n hn hne c1 a1 (by rw [← a2, ← c2]; exact hst)
        · have := twice_at hn hk (pairBad_iff.2 ⟨a1, c1, .inl ⟨hne, by rw [← a2, ← c2]; exact hst⟩⟩)
          rw [h3] at this; exact absurd this (by simp)
      · -- each part is from what is to be, or from the disk
        have src : ∀ i a, i < 8 → a < 2 → (X.ino i).live = true → 0 ≤ (X.ino i).prt a → ((m.ino i).live = true ∧ (X.ino i).prt a = (m.ino i).prt a) ∨ ((m'.ino i).live = true ∧ (X.ino i).prt a = (m'.ino i).prt a) := by
          intro i a hi ha hl h0
          rcases hL i hi hl with ⟨a1, _, _, a4⟩ | ⟨a1, _, _, a4⟩
          · rw [a4 a ha] at h0 ⊢
            rcases part_cases m m' i a with c | ⟨c1, _, _, _⟩ | ⟨c1, c2, _⟩
            · omega
            · exact .inl ⟨a1, c1⟩
            · exact .inr ⟨c2, c1⟩
          · exact .inr ⟨a1, a4 a⟩
        rcases src n p hn hp b1 h0 with ⟨s1, s2⟩ | ⟨s1, s2⟩ <;> rcases src k q hk hq b2 (by omega) with ⟨t1, t2⟩ | ⟨t1, t2⟩
        · exact badm hp hq hne s1 t1 (by omega) (by omega)
        · obtain ⟨u1, u2, _⟩ := (hf.1 n hn).2.2 p hp s1 (by omega) k hk q hq t1 (by omega)
          omega
        · obtain ⟨u1, u2, _⟩ := (hf.1 k hk).2.2 q hq t1 (by omega) n hn p hp s1 (by omega)
          omega
        · exact badd hp hq hne s1 t1 (by omega) (by omega)
theorem mends_dir {m m' : Img} (hc : check m' = 0) (he : exact m = true) (hf : Fits m m') {d0 : Nat} (hd0 : d0 < 3) : check (wrDir m m' d0 4) = 0 := by
  obtain ⟨hcm, hem⟩ := exact_parts he
  obtain ⟨h1, h2, h3⟩ := check_parts hc
  obtain ⟨g1, g2, g3⟩ := check_parts hcm
  obtain ⟨i1, i2, i3, i4, i5, i6⟩ := wrDir_ok m m' hd0 4 (Nat.le_refl _)
  generalize wrDir m m' d0 4 = X at *
  refine check_of (fun d hd s hs => ?_) (fun n hn => ?_) ?_
  · -- each slot is as on the disk, or none, or as it is to be
    have slot : ∀ t, t < 4 → X.ent d t = m'.ent d t ∨ X.ent d t = Ent.zero ∨ (X.ent d t = m.ent d t ∧ 0 ≤ (m.ent d t).ino ∧ (m.ent d t).ino < 8 ∧ (m'.ino (m.ent d t).ino.toNat).live = true ∧ (m'.ino (m.ent d t).ino.toNat).stamp = (m.ent d t).stamp) := by
      intro t ht
      by_cases e : d = d0
      · subst e; exact i4 t ht
      · exact .inl (i3 d t hd ht (.inl e))
    have uniq : ∀ k, k < s → ¬(X.ent d s).name = ⟨#[]⟩ → ¬(X.ent d k).name = (X.ent d s).name := by
      intro k hk hne heq
      have hk4 : k < 4 := by omega
      rcases slot s hs with a | a | ⟨a, _⟩ <;> rcases slot k hk4 with b | b | ⟨b, _⟩ <;> rw [a] at hne heq <;> rw [b] at heq
      · rcases entry_parts (h1 d hd s hs) with e0 | ⟨_, _, a3, _⟩
        · rw [e0] at hne; exact hne rfl
        · have := anyN_false.1 a3 k hk; simp [heq] at this
      · exact hne heq.symm
      · exact (hf.2.2 d hd k hk4).2 s hs (by omega) (by rw [heq]; exact hne) heq.symm
      · exact absurd rfl hne
      · exact absurd rfl hne
      · exact absurd rfl hne
      · exact (hf.2.2 d hd s hs).2 k hk4 (by omega) hne heq
      · exact hne heq.symm
      · rcases entry_parts (g1 d hd s hs) with e0 | ⟨_, _, a3, _⟩
        · rw [e0] at hne; exact hne rfl
        · have := anyN_false.1 a3 k hk; simp [heq] at this
    have any : ¬(X.ent d s).name = ⟨#[]⟩ → anyN s (fun k => decide ((X.ent d k).name = (X.ent d s).name)) = false := fun hne => anyN_false.2 fun k hk => by simpa using uniq k hk hne
    rcases slot s hs with a | a | ⟨a, b1, b2, b3, b4⟩
    · rcases entry_parts (h1 d hd s hs) with e0 | ⟨a1, a2, a3, a4, a5, a6, a7⟩
      · rw [e0] at a; simp [entryFault, a, show Ent.zero.name = ⟨#[]⟩ from rfl]
      · exact entry_of (by rw [a]; exact a1) (by rw [a]; exact a2) (any (by rw [a]; exact a1)) (by rw [a]; exact a4) (by rw [a]; exact a5) (by rw [a, i1]; exact a6) (by rw [a, i1]; exact a7)
    · simp [entryFault, a, show Ent.zero.name = ⟨#[]⟩ from rfl]
    · rcases entry_parts (g1 d hd s hs) with e0 | ⟨a1, a2, a3, a4, a5, a6, a7⟩
      · rw [e0] at a; simp [entryFault, a, show Ent.zero.name = ⟨#[]⟩ from rfl]
      · exact entry_of (by rw [a]; exact a1) (by rw [a]; exact a2) (any (by rw [a]; exact a1)) (by rw [a]; exact a4) (by rw [a]; exact a5) (by rw [a, i1]; exact b3) (by rw [a, i1]; exact b4)
  · cases hl : (m'.ino n).live with
    | false => exact inoFault_dead (by rw [i1]; exact dead_none hc hn hl)
    | true =>
      obtain ⟨p1, p2, p3⟩ := ino_parts hc hn hl
      refine inoFault_of (by rw [i1]; exact hl) (by rw [i1]; exact p1) ?_ fun p hp => ?_
      · rw [i1]
        rcases i6 n with h | ⟨_, h⟩
        · omega
        · exact h
      · rw [i1]
        rcases part_dat (p3 p hp) with r | ⟨r1, r2, r3⟩
        · exact partFault_of (.inl r)
        · exact partFault_of (.inr ⟨r1, r2, by rw [i2]; exact r3⟩)
  · rw [← h3]; exact twice_ino i1
theorem write_mends {m m' : Img} (hc : check m' = 0) (he : exact m = true) (hf : Fits m m') (b : Int) : check (writeAs m m' b).1 = 0 := by
  obtain ⟨n, hn, e⟩ | ⟨n, hn, e⟩ | ⟨n, hn, e⟩ | e := blockOf_cases b
  · rw [writeAs_i e]; exact mends_inodes hc he hf hn
  · rw [writeAs_d e]; exact mends_dir hc he hf hn
  · rw [writeAs_a e]; exact mends_data hc hf hn
  · rw [writeAs_n e]; exact hc
end Go.Mini

namespace Go.Mini
set_option linter.unusedSimpArgs false
set_option linter.unusedVariables false
set_option maxHeartbeats 4000000
set_option maxRecDepth 100000

@[go_sem] theorem st_id : decide (sInodes = ⟨#[100, 105, 114]⟩) = false := by decide
@[go_sem] theorem st_ia : decide (sInodes = ⟨#[100, 97, 116, 97]⟩) = false := by decide
@[go_sem] theorem st_da : decide (sDir = ⟨#[100, 97, 116, 97]⟩) = false := by decide
theorem blockOf_out {b : Int} (h : ¬(0 ≤ b ∧ b < 14)) : blockOf b = (sNone, 0) := by unfold blockOf; rw [if_pos (by omega)]
theorem blockOf_in {b : Int} {k : Str} {n : Int} (h : blockOf b = (k, n)) (hk : ¬sNone = k) : 0 ≤ b ∧ b < 14 := by
  by_cases hc : 0 ≤ b ∧ b < 14
  · exact hc
  · rw [blockOf_out hc] at h; exact absurd (congrArg Prod.fst h) hk
theorem blockOf_not {b : Int} (h : blockOf b = (sNone, 0)) : ¬(0 ≤ b ∧ b < 14) := by
  rintro ⟨h0, h1⟩
  unfold blockOf at h
  rw [if_neg (by omega)] at h
  have n1 : ¬sInodes = sNone := by decide
  have n2 : ¬sDir = sNone := by decide
  have n3 : ¬sData = sNone := by decide
  split at h
  · exact n1 (congrArg Prod.fst h)
  · split at h
    · exact n2 (congrArg Prod.fst h)
    · exact n3 (congrArg Prod.fst h)
/-- What lies there as it may lie there stays so. -/
theorem again_ino {m m' X : Img} {n : Nat} (hX : X.ino n = inodeAs m m' n) (hE : ∀ d s, X.ent d s = m'.ent d s) (hD : ∀ x, X.dat x = m'.dat x) : inodeAs m X n = X.ino n := by
  have hB : ∀ i, both m X i = both m m' i := fun i => by simp only [both, bothRow, leads, hE]
  cases hl : (m.ino n).live with
  | true =>
    have e1 : inodeAs m m' n = ⟨(m.ino n).live, (m.ino n).stamp, both m m' n, #v[part m m' n 0, part m m' n 1]⟩ := by simp only [inodeAs, if_pos hl]
    have e2 : inodeAs m X n = ⟨(m.ino n).live, (m.ino n).stamp, both m m' n, #v[part m X n 0, part m X n 1]⟩ := by simp only [inodeAs, if_pos hl, hB]
    have hp : ∀ p, p < 2 → part m X n p = part m m' n p := by
      intro p hp
      have hprt : (X.ino n).prt p = part m m' n p := by
        rw [hX, e1]; simp only [Ino.prt, hp, dite_true]
        obtain rfl | rfl : p = 0 ∨ p = 1 := by omega
        all_goals rfl
      have hlive : (X.ino n).live = true := by rw [hX, e1]; exact hl
      have hst : (X.ino n).stamp = (m.ino n).stamp := by rw [hX, e1]
      have h1 : part m X n p = (let x := (m.ino n).prt p
        if x < 0 ∨ 9 ≤ x then -1 else if (m'.dat x.toNat).of = (m.ino n).stamp then x else part m m' n p) := by
        simp only [part, hD, hlive, hst, and_self, if_true]
        rw [hprt]; rfl
      rw [h1]
      simp only
      by_cases hx : (m.ino n).prt p < 0 ∨ 9 ≤ (m.ino n).prt p
      · rw [if_pos hx]; simp only [part, if_pos hx]
      · rw [if_neg hx]
        by_cases hd : (m'.dat ((m.ino n).prt p).toNat).of = (m.ino n).stamp
        · rw [if_pos hd]; simp only [part, if_neg hx, if_pos hd]
        · rw [if_neg hd]
    rw [e2, hp 0 (by omega), hp 1 (by omega), hX, e1]
  | false =>
    have hl' : ¬(m.ino n).live = true := by rw [hl]; simp
    by_cases hd : (m'.ino n).live = true ∧ 0 < both m m' n
    · have e1 : inodeAs m m' n = { m'.ino n with links := both m m' n } := by simp only [inodeAs, if_neg hl', if_pos hd]
      have hd' : (X.ino n).live = true ∧ 0 < both m X n := by rw [hX, e1, hB]; exact hd
      have e2 : inodeAs m X n = { X.ino n with links := both m X n } := by simp only [inodeAs, if_neg hl', if_pos hd']
      rw [e2, hX, e1, hB]
    · have e1 : inodeAs m m' n = Ino.none := by simp only [inodeAs, if_neg hl', if_neg hd]
      have hd' : ¬((X.ino n).live = true ∧ 0 < both m X n) := by rw [hX, e1]; simp [Ino.none]
      have e2 : inodeAs m X n = Ino.none := by simp only [inodeAs, if_neg hl', if_neg hd']
      rw [e2, hX, e1]
theorem again_inodes {m m' : Img} {n : Nat} (hn : n ≤ 4) : wrInodes m (wrInodes m m' n 4) n 4 = wrInodes m m' n 4 := by
  refine Img.ext_of (fun i hi => ?_) (fun d s _ _ => wrInodes_ent ..) (fun x _ => wrInodes_dat ..)
  rw [wrInodes_ino' _ _ n hn]
  split
  · rename_i h
    exact again_ino (m' := m') (by rw [wrInodes_ino' _ _ n hn, if_pos h]) (fun d s => wrInodes_ent ..) (fun x => wrInodes_dat ..)
  · rfl
theorem again_data {m m' : Img} {n : Nat} (hn : n < 9) : (m'.setDat n (m.dat n)).setDat n (m.dat n) = m'.setDat n (m.dat n) :=
  setDat_self _ (by rw [dat_setDat, if_pos ⟨rfl, hn⟩])
theorem inodeAs_self {m : Img} (he : exact m = true) {n : Nat} (hn : n < 8) : inodeAs m m n = m.ino n := by
  obtain ⟨hc, hx⟩ := exact_parts he
  cases hl : (m.ino n).live with
  | true =>
    obtain ⟨h1, h2⟩ := hx n hn hl
    obtain ⟨_, _, p3⟩ := ino_parts hc hn hl
    have hp : ∀ p, p < 2 → part m m n p = (m.ino n).prt p := by
      intro p hp
      rcases part_cases m m n p with c | ⟨c, _⟩ | ⟨c, _⟩
      · rcases part_dat (p3 p hp) with r | ⟨r1, r2, r3⟩
        · rw [c, r]
        · have : part m m n p = (m.ino n).prt p := by
            simp only [part]; rw [if_neg (by omega), if_pos r3]
          exact this
      · exact c
      · exact c
    refine Ino.ext_of (by simp only [inodeAs, if_pos hl]) (by simp only [inodeAs, if_pos hl]) (by simp only [inodeAs, if_pos hl]; rw [both_self, h2]) fun p hp' => ?_
    rw [← hp p hp']
    simp only [inodeAs, if_pos hl, Ino.prt, hp', dite_true]
    obtain rfl | rfl : p = 0 ∨ p = 1 := by omega
    all_goals rfl
  | false =>
    have hl' : ¬(m.ino n).live = true := by rw [hl]; simp
    have hd : ¬((m.ino n).live = true ∧ 0 < both m m n) := fun h => hl' h.1
    rw [dead_none hc hn hl]
    simp only [inodeAs, if_neg hl', if_neg hd]
theorem setEnt_self (m : Img) {d s : Nat} {y : Ent} (h : y = m.ent d s) : m.setEnt d s y = m := by
  subst h
  refine Img.ext_of (fun n _ => ino_setEnt ..) (fun d' s' _ _ => ?_) (fun x _ => dat_setEnt ..)
  rw [ent_setEnt]; split
  · rename_i h; rw [h.1.1, h.1.2]
  · rfl
theorem wrDir_self (m : Img) (d : Nat) : ∀ k, wrDir m m d k = m
  | 0 => rfl
  | k + 1 => by
    rw [wrDir, wrDir_self m d k]
    exact setEnt_self _ (by simp [entryAs])
theorem self_write {m : Img} (he : exact m = true) (b : Int) : (writeAs m m b).1 = m := by
  obtain ⟨n, hn, e⟩ | ⟨n, hn, e⟩ | ⟨n, hn, e⟩ | e := blockOf_cases b
  · rw [writeAs_i e]
    refine Img.ext_of (fun i hi => ?_) (fun d s _ _ => wrInodes_ent ..) (fun x _ => wrInodes_dat ..)
    show (wrInodes m m n 4).ino i = _
    rw [wrInodes_ino' _ _ n hn]
    split
    · exact inodeAs_self he hi
    · rfl
  · rw [writeAs_d e]; exact wrDir_self m n 4
  · rw [writeAs_a e]; exact setDat_self _ rfl
  · rw [writeAs_n e]
/-- A block is laid back. -/
def back4 (X D : Img) (n : Nat) : Nat → Img
  | 0 => X
  | k + 1 => (back4 X D n k).setIno (n + k) (D.ino (n + k))
theorem back4_ino (X D : Img) (n i : Nat) : ∀ k, k ≤ 4 → n ≤ 4 → (back4 X D n k).ino i = if n ≤ i ∧ i < n + k then D.ino i else X.ino i
  | 0, _, _ => by rw [if_neg (by omega)]; rfl
  | k + 1, hk, hn => by
    rw [back4, ino_setIno, back4_ino X D n i k (by omega) hn]
    by_cases e : n + k = i
    · subst e; rw [if_pos ⟨rfl, by omega⟩, if_pos (by omega)]
    · rw [if_neg (by omega)]
      by_cases h : n ≤ i ∧ i < n + k
      · rw [if_pos h, if_pos (by omega)]
      · rw [if_neg h, if_neg (by omega)]
theorem back4_ent (X D : Img) (n d s : Nat) : ∀ k, (back4 X D n k).ent d s = X.ent d s
  | 0 => rfl
  | k + 1 => by rw [back4, ent_setIno, back4_ent X D n d s k]
theorem back4_dat (X D : Img) (n x : Nat) : ∀ k, (back4 X D n k).dat x = X.dat x
  | 0 => rfl
  | k + 1 => by rw [back4, dat_setIno, back4_dat X D n x k]
theorem back_inodes {m m' : Img} {n : Nat} (hn : n ≤ 4) : back4 (wrInodes m m' n 4) m' n 4 = m' := by
  refine Img.ext_of (fun i hi => ?_) (fun d s _ _ => by rw [back4_ent, wrInodes_ent]) (fun x _ => by rw [back4_dat, wrInodes_dat])
  rw [back4_ino _ _ _ _ 4 (by omega) hn]
  split
  · rfl
  · rename_i h; rw [wrInodes_ino' _ _ n hn, if_neg h]
theorem back_dir {m m' : Img} {n : Nat} (hn : n < 3) : (⟨(wrDir m m' n 4).inode, (wrDir m m' n 4).dir.set n (m'.dir[n]'hn) hn, (wrDir m m' n 4).data⟩ : Img) = m' := by
  obtain ⟨i1, i2, i3, _⟩ := wrDir_ok m m' hn 4 (Nat.le_refl _)
  refine Img.ext_of (fun i _ => i1 i) (fun d s hd hs => ?_) (fun x _ => i2 x)
  by_cases e : n = d
  · subst e
    simp [Img.ent, hd, hs]
  · have h := i3 d s hd hs (.inl fun h => e h.symm)
    simp only [Img.ent, hd, hs, and_self, dite_true] at h ⊢
    rw [← h]
    simp [Vector.getElem_set, e]
theorem back_data {m m' : Img} {n : Nat} : (m'.setDat n (m.dat n)).setDat n (m'.dat n) = m' := by
  refine Img.ext_of (fun i _ => by simp only [ino_setDat]) (fun d s _ _ => by simp only [ent_setDat]) (fun x hx => ?_)
  rw [dat_setDat, dat_setDat]
  by_cases h : n = x ∧ x < 9
  · rw [if_pos h, h.1]
  · rw [if_neg h, if_neg h]
section
variable {cx : Cx} {h : HP} {p p' : Id} {q q' : List Nat} {m m' : Img}
theorem SafeMends_ok {b : Int} : Ok tblB cx Fn.eiderdownlaw_SafeMends (St.enter [m.enc, m'.enc, .int .i64 b] h) fun v h' => v = .bool true ∧ h' = h := by
  rw [Ok_eq]
  simp (config := { maxSteps := 1000000 }) (disch := omega) only [go_sem]
  refine W_callp rfl ⟨rfl, rfl⟩ (by simp only [go_sem]; exact up (safeBegun_ok)) ?_
  simp (config := { maxSteps := 1000000 }) (disch := omega) only [go_sem]
  refine W_callp rfl ⟨rfl, rfl⟩ (by simp only [go_sem]; exact up (Great_ok)) ?_
  simp (config := { maxSteps := 1000000 }) (disch := omega) only [go_sem]
  cases hg : great m with
  | true => simp (config := { maxSteps := 1000000 }) (disch := omega) only [go_sem]
  | false =>
    have hs := great_small hg
    simp (config := { maxSteps := 1000000 }) (disch := omega) only [go_sem]
    refine W_callp rfl ⟨rfl, rfl⟩ (by simp only [go_sem]; exact up (Great_ok)) ?_
    simp (config := { maxSteps := 1000000 }) (disch := omega) only [go_sem]
    cases hg' : great m' with
    | true => simp (config := { maxSteps := 1000000 }) (disch := omega) only [go_sem]
    | false =>
      have hs' := great_small hg'
      simp (config := { maxSteps := 1000000 }) (disch := omega) only [go_sem]
      refine W_callp rfl ⟨rfl, rfl⟩ (by simp only [go_sem]; exact up (Check_ok (m := m') hs' (below_stk _ _) (by simp only [go_sem, HP.push_rd_own]))) ?_
      simp (config := { maxSteps := 1000000 }) (disch := omega) only [go_sem]
      by_cases hc : check m' = 0
      · simp (config := { maxSteps := 1000000 }) (disch := omega) only [go_sem, hc]
        refine W_callp rfl ⟨rfl, rfl⟩ (by simp only [go_sem]; exact up (Exact_ok (m := m) hs (below_stk _ _) (by simp only [go_sem, HP.push_rd_own]))) ?_
        simp (config := { maxSteps := 1000000 }) (disch := omega) only [go_sem]
        cases he : exact m with
        | false => simp (config := { maxSteps := 1000000 }) (disch := omega) only [go_sem]
        | true =>
          simp (config := { maxSteps := 1000000 }) (disch := omega) only [go_sem, he]
          refine W_callr rfl ⟨rfl, rfl⟩ (by simp only [go_sem]; exact fit_ok (m := m) (m' := m') (below_stk _ _) (by simp only [go_sem, HP.push_rd_own]) (below_stk _ _) (by simp only [go_sem, HP.push_rd_own])) ?_
          rintro v h' ⟨⟨c, rfl, hf⟩, rfl⟩
          rw [pop_push]
          cases c with
          | false => simp (config := { maxSteps := 1000000 }) (disch := omega) only [go_sem]
          | true =>
            have hf := hf rfl
            simp (config := { maxSteps := 1000000 }) (disch := omega) only [go_sem]
            refine W_callp rfl ⟨rfl, rfl⟩ (by simp only [go_sem]; exact up (Write_ok (m := m) (m' := m') (below_stk _ _) (by simp only [go_sem, HP.push_rd_own]) (below_stk _ _) (by simp only [go_sem, HP.push_rd_own]))) ?_
            have hx := write_mends hc he hf b
            have hxs : (writeAs m m' b).1.small := by
              intro d s
              by_cases hds : d < 3 ∧ s < 4
              · rcases (write_last m m' b).2.2 d s hds.1 hds.2 with e | e | ⟨e, _⟩
                · rw [← e]; exact hs' d s
                · rw [e]; decide
                · rw [e]; exact hs d s
              · rw [ent_out hds]; decide
            generalize writeAs m m' b = X at *
            simp (config := { maxSteps := 1000000 }) (disch := omega) only [go_sem]
            refine W_callp rfl ⟨rfl, rfl⟩ (by simp only [go_sem]; exact up (Check_ok (m := X.1) hxs (below_stk _ _) (by simp only [go_sem, HP.push_rd_own]))) ?_
            simp (config := { maxSteps := 1000000 }) (disch := omega) only [go_sem, hx]
      · simp (config := { maxSteps := 1000000 }) (disch := omega) only [go_sem, hc]
theorem SafeOne_ok {b : Int} : Ok tblB cx Fn.eiderdownlaw_SafeOne (St.enter [m.enc, m'.enc, .int .i64 b] h) fun v h' => v = .bool true ∧ h' = h := by
  rw [Ok_eq]
  simp (config := { maxSteps := 1000000 }) (disch := omega) only [go_sem]
  refine W_callp rfl ⟨rfl, rfl⟩ (by simp only [go_sem]; exact up (safeBegun_ok)) ?_
  simp (config := { maxSteps := 1000000 }) (disch := omega) only [go_sem]
  refine W_callp rfl ⟨rfl, rfl⟩ (by simp only [go_sem]; exact up (Great_ok)) ?_
  simp (config := { maxSteps := 1000000 }) (disch := omega) only [go_sem]
  cases hg : great m with
  | true => simp (config := { maxSteps := 1000000 }) (disch := omega) only [go_sem]
  | false =>
    have hs := great_small hg
    simp (config := { maxSteps := 1000000 }) (disch := omega) only [go_sem]
    refine W_callp rfl ⟨rfl, rfl⟩ (by simp only [go_sem]; exact up (Great_ok)) ?_
    simp (config := { maxSteps := 1000000 }) (disch := omega) only [go_sem]
    cases hg' : great m' with
    | true => simp (config := { maxSteps := 1000000 }) (disch := omega) only [go_sem]
    | false =>
      simp (config := { maxSteps := 1000000 }) (disch := omega) only [go_sem]
      refine W_callp rfl ⟨rfl, rfl⟩ (by simp only [go_sem]; exact up (Write_ok (m := m) (m' := m') (below_stk _ _) (by simp only [go_sem, HP.push_rd_own]) (below_stk _ _) (by simp only [go_sem, HP.push_rd_own]))) ?_
      simp (config := { maxSteps := 1000000 }) (disch := omega) only [go_sem]
      refine W_callp rfl ⟨rfl, rfl⟩ (by simp only [go_sem]; exact up (Block_ok)) ?_
      simp (config := { maxSteps := 1000000 }) (disch := omega) only [go_sem]
      obtain ⟨n, hn, e⟩ | ⟨n, hn, e⟩ | ⟨n, hn, e⟩ | e := blockOf_cases b
      · obtain ⟨b0, b1⟩ := blockOf_in e (by decide)
        have hz : (writeAs m (wrInodes m m' n 4) b).1 = wrInodes m m' n 4 := by rw [writeAs_i e]; exact again_inodes hn
        have hy := back_inodes (m := m) (m' := m') hn
        simp (config := { maxSteps := 1000000 }) (disch := omega) only [go_sem, e, writeAs_i e, b0, b1]
        refine W_for 4 (fun j => ⟨[(2, .int .i64 b), (3, .ptr (.stk cx.lvl 3) [] tImage), (4, .ptr (.stk cx.lvl 4) [] tImage), (7, .ptr (.stk cx.lvl 7) [] tImage), (9, .str sInodes), (10, .int .i64 n), (11, .ptr (.stk cx.lvl 11) [] tImage), (12, .int .i64 j)],
          [(3, ⟨tImage, m.enc⟩), (4, ⟨tImage, m'.enc⟩), (7, ⟨tImage, (wrInodes m m' n 4).enc⟩), (11, ⟨tImage, (back4 (wrInodes m m' n 4) m' n j).enc⟩)], h⟩) (by simp only [go_sem, back4] <;> rfl) fun j hj ih => ?_
        by_cases hlt : j < 4
        · simp (config := { maxSteps := 1000000 }) (disch := omega) only [go_sem, hlt]
          refine ih _ hlt ?_
          simp only [go_sem, back4]
        · obtain rfl : j = 4 := by omega
          rw [hy]
          simp (config := { maxSteps := 1000000 }) (disch := omega) only [go_sem]
          refine W_callp rfl ⟨rfl, rfl⟩ (by simp only [go_sem]; exact up (Write_ok (m := m) (m' := wrInodes m m' n 4) (below_stk _ _) (by simp only [go_sem, HP.push_rd_own]) (below_stk _ _) (by simp only [go_sem, HP.push_rd_own]))) ?_
          simp (config := { maxSteps := 1000000 }) (disch := omega) only [go_sem, hz]
          refine W_callp rfl ⟨rfl, rfl⟩ (by simp only [go_sem]; exact up (Exact_ok (m := m) hs (below_stk _ _) (by simp only [go_sem, HP.push_rd_own]))) ?_
          cases hx : exact m with
          | false => simp (config := { maxSteps := 1000000 }) (disch := omega) only [go_sem, hx]
          | true =>
            simp (config := { maxSteps := 1000000 }) (disch := omega) only [go_sem, hx]
            refine W_callp rfl ⟨rfl, rfl⟩ (by simp only [go_sem]; exact up (Write_ok (m := m) (m' := m) (below_stk _ _) (by simp only [go_sem, HP.push_rd_own]) (below_stk _ _) (by simp only [go_sem, HP.push_rd_own]))) ?_
            simp (config := { maxSteps := 1000000 }) (disch := omega) only [go_sem, self_write hx b]
      · obtain ⟨b0, b1⟩ := blockOf_in e (by decide)
        have hy := back_dir (m := m) (m' := m') hn
        simp (config := { maxSteps := 1000000 }) (disch := omega) only [go_sem, e, writeAs_d e, b0, b1]
        simp (config := { maxSteps := 1000000 }) (disch := omega) only [go_sem, hy]
        refine W_callp rfl ⟨rfl, rfl⟩ (by simp only [go_sem]; exact up (Write_ok (m := m) (m' := wrDir m m' n 4) (below_stk _ _) (by simp only [go_sem, HP.push_rd_own]) (below_stk _ _) (by simp only [go_sem, HP.push_rd_own]))) ?_
        simp (config := { maxSteps := 1000000 }) (disch := omega) only [go_sem]
        refine W_callp rfl ⟨rfl, rfl⟩ (by simp only [go_sem]; exact up (Exact_ok (m := m) hs (below_stk _ _) (by simp only [go_sem, HP.push_rd_own]))) ?_
        cases hx : exact m with
        | false => simp (config := { maxSteps := 1000000 }) (disch := omega) only [go_sem, hx]
        | true =>
          simp (config := { maxSteps := 1000000 }) (disch := omega) only [go_sem, hx]
          refine W_callp rfl ⟨rfl, rfl⟩ (by simp only [go_sem]; exact up (Write_ok (m := m) (m' := m) (below_stk _ _) (by simp only [go_sem, HP.push_rd_own]) (below_stk _ _) (by simp only [go_sem, HP.push_rd_own]))) ?_
          simp (config := { maxSteps := 1000000 }) (disch := omega) only [go_sem, self_write hx b]
      · obtain ⟨b0, b1⟩ := blockOf_in e (by decide)
        have hz : (writeAs m (m'.setDat n (m.dat n)) b).1 = m'.setDat n (m.dat n) := by rw [writeAs_a e]; exact again_data hn
        have hy := back_data (m := m) (m' := m') (n := n)
        simp (config := { maxSteps := 1000000 }) (disch := omega) only [go_sem, e, writeAs_a e, b0, b1, hy]
        refine W_callp rfl ⟨rfl, rfl⟩ (by simp only [go_sem]; exact up (Write_ok (m := m) (m' := m'.setDat n (m.dat n)) (below_stk _ _) (by simp only [go_sem, HP.push_rd_own]) (below_stk _ _) (by simp only [go_sem, HP.push_rd_own]))) ?_
        simp (config := { maxSteps := 1000000 }) (disch := omega) only [go_sem, hz]
        refine W_callp rfl ⟨rfl, rfl⟩ (by simp only [go_sem]; exact up (Exact_ok (m := m) hs (below_stk _ _) (by simp only [go_sem, HP.push_rd_own]))) ?_
        cases hx : exact m with
        | false => simp (config := { maxSteps := 1000000 }) (disch := omega) only [go_sem, hx]
        | true =>
          simp (config := { maxSteps := 1000000 }) (disch := omega) only [go_sem, hx]
          refine W_callp rfl ⟨rfl, rfl⟩ (by simp only [go_sem]; exact up (Write_ok (m := m) (m' := m) (below_stk _ _) (by simp only [go_sem, HP.push_rd_own]) (below_stk _ _) (by simp only [go_sem, HP.push_rd_own]))) ?_
          simp (config := { maxSteps := 1000000 }) (disch := omega) only [go_sem, self_write hx b]
      · have hb := blockOf_not e
        by_cases b0 : 0 ≤ b
        · have b1 : ¬b < 14 := fun h => hb ⟨b0, h⟩
          simp (config := { maxSteps := 1000000 }) (disch := omega) only [go_sem, e, writeAs_n e, b0, b1]
        · simp (config := { maxSteps := 1000000 }) (disch := omega) only [go_sem, e, writeAs_n e, b0]
end
end Go.Mini
