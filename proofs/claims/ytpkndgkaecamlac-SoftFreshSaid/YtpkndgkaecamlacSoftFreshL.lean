/- A part of the proof: the statement SoftFresh, over the model of its code. -/
import Derived.Test.YtpkndgkaecamlacScS

namespace Go.Mini
set_option linter.unusedSimpArgs false
set_option linter.unusedVariables false
set_option maxHeartbeats 4000000
set_option maxRecDepth 100000
theorem doF_code {F : Fl} {x : SStep} (h : ¬doC F x = 0) : doF F x = F := by simp [doF, h]
end Go.Mini
namespace Go.Mini
set_option linter.unusedSimpArgs false
set_option linter.unusedVariables false
set_option maxHeartbeats 4000000
set_option maxRecDepth 100000
def Two (f g : Nat) (F G : Fl) (h : HP) : Prop := (∃ c, FilAt h f c F) ∧ ∃ c, FilAt h g c G
theorem Two.same {f g : Nat} {F G : Fl} {h h1 : HP} (a : Two f g F G h) (b : Fr h h1 []) : Two f g F G h1 := by
  obtain ⟨⟨c, a1⟩, ⟨e, a2⟩⟩ := a
  exact ⟨⟨c, a1.same b (by simp) (by simp)⟩, ⟨e, a2.same b (by simp) (by simp)⟩⟩
end Go.Mini
namespace Go.Mini
set_option linter.unusedSimpArgs false
set_option linter.unusedVariables false
set_option maxHeartbeats 4000000
set_option maxRecDepth 100000

def sMk (d : Int) (s : Str) : SStep := ⟨1, d, 0, 0, s, ⟨#[]⟩, ⟨#[]⟩⟩
@[go_sem] theorem fill_stepF (d : Int) (s : Str) : fill tStep tStep.zero [(0, .int .i64 1), (1, .int .i64 d), (4, .str s)] = some (sMk d s).enc := rfl

structure NewFile (F : Fl) (d : Int) (s : Str) (A : Img) (k n : Nat) : Prop where
  now : (doF F (sMk d s)).now = A
  d0 : 0 ≤ d
  d3 : d < 3
  k4 : k < 4
  n8 : n < 8
  slot : slotOf A d s = k
  ent : A.ent d.toNat k = ⟨s, n, F.stamp + 1⟩
  disk : refs F.disk n = 0
  one : refs A n = 1
  dead : (F.now.ino n).live = false
  old : ∀ j, j < 8 → (F.now.ino j).live = true → (F.now.ino j).stamp < F.stamp + 1 ∧ A.ino j = F.now.ino j
  rd : ∀ p : Int, 0 ≤ p → p < 2 → readC A d s p = 0 ∧ readB A d s p = false
theorem newFile {F : Fl} (h : Inv F) (hs : F.stamp < 4611686018427387904) {d : Int} {s : Str} (c : doC F (sMk d s) = 0) : ∃ A k n, NewFile F d s A k n := by
  have c0 := doC_zero c
  obtain ⟨_, ⟨d0, d3⟩, hn, _, _, _⟩ := stepFault_zero c0
  change 0 ≤ d at d0
  change d < 3 at d3
  change isName s = true at hn
  have hne := isName_ne hn
  have hm : makeC F d s = 0 := by
    unfold doC at c
    rw [if_neg (by simpa using c0), if_pos (show (sMk d s).kind = 1 from rfl)] at c
    exact c
  have hm' := hm
  unfold makeC at hm
  split at hm
  · omega
  rename_i q1
  split at hm
  · omega
  rename_i q2
  rcases freeIno_cases F.now F.disk with e | ⟨n, n8, e, ed, er⟩
  · exact absurd (.inl (by omega)) q2
  rcases room_cases F.now F.disk d s with e2 | ⟨k, k4, e2, _, _, ke, kb, sb⟩
  · exact absurd (.inr (by omega)) q2
  have s0 := h.s0
  have hst : IntKind.i64.wrap (F.stamp + 1) = F.stamp + 1 := wrap64 (by omega) (by omega)
  have dn : d.toNat < 3 := by omega
  have hno := slot_none d0 d3 hne (by omega : slotOf F.now d s < 0)
  have hr0 := dead_refs h.cn n8 ed
  have hA : (doF F (sMk d s)).now = addName (F.now.setIno n (newIno (F.stamp + 1))) d.toNat k s n := by
    unfold doF
    rw [if_neg (by simpa using c), if_pos (show (sMk d s).kind = 1 from rfl)]
    show (makeF F d s).now = _
    unfold makeF
    rw [if_pos hm', e, e2, hst]
    rfl
  have hent := ent_addName (F.now.setIno n (newIno (F.stamp + 1))) d.toNat k s n
  have hns : ((F.now.setIno n (newIno (F.stamp + 1))).ino n) = newIno (F.stamp + 1) := by rw [ino_setIno, if_pos ⟨rfl, n8⟩]
  have hino : ∀ j, j < 8 → (addName (F.now.setIno n (newIno (F.stamp + 1))) d.toNat k s n).ino j = if n = j then { newIno (F.stamp + 1) with links := IntKind.i64.wrap (0 + 1) } else F.now.ino j := fun j hj => by
    simp only [addName, ino_setIno, ino_setEnt, hj, n8, and_true]
    by_cases e : n = j
    · subst e
      simp only [if_true]
      rfl
    · rw [if_neg e, if_neg e, if_neg e]
  have hrf : refs (addName (F.now.setIno n (newIno (F.stamp + 1))) d.toNat k s n) n = 1 := by
    rw [addName, refs_setIno, refs_other (m := F.now.setIno n (newIno (F.stamp + 1))) dn k4 ke, refs_setIno, hr0]
    simp [leadsE, hne, b2n]
  generalize hX : addName (F.now.setIno n (newIno (F.stamp + 1))) d.toNat k s n = A at *
  have he : A.ent d.toNat k = ⟨s, n, F.stamp + 1⟩ := by
    rw [hent, if_pos ⟨⟨rfl, rfl⟩, dn, k4⟩, hns]; rfl
  have hsl : slotOf A d s = k := by
    unfold slotOf
    rw [if_neg (by simp only [not_or]; exact ⟨by omega, by omega, hne⟩)]
    refine findN_at (j := k) (fun i hi => ?_) (by simp [he]) k4
    have : ¬(A.ent d.toNat i).name = s := by
      rw [hent, if_neg (by omega)]
      exact hno i (by omega)
    simpa using this
  refine ⟨A, k, n, hA, d0, d3, k4, n8, hsl, he, er, hrf, ed, fun j hj hl => ⟨by have := h.sn j hj hl; omega, ?_⟩, fun p p0 p2 => ?_⟩
  · rw [hino j hj, if_neg (by rintro rfl; rw [ed] at hl; simp at hl)]
  · have hf : stepFault ⟨6, d, 0, p, s, ⟨#[]⟩, ⟨#[]⟩⟩ = 0 := by
      have : dirFaultN d s = 0 := by unfold dirFaultN; rw [if_neg (by omega), if_pos hn]
      unfold stepFault
      rw [if_neg (by simp), if_neg (by simpa using this), if_neg (by simp), if_neg (by dsimp only; omega), if_neg (by simp)]
    have r0 : readC A d s p = 0 := by
      unfold readC
      rw [if_neg (by simpa using hf), if_neg (by omega)]
    refine ⟨r0, ?_⟩
    have : readX A d s p = -1 := by
      unfold readX
      rw [hsl, Int.toNat_natCast, he]
      dsimp only
      rw [Int.toNat_natCast, hino n n8, if_pos rfl]
      obtain ⟨p, rfl⟩ : ∃ q : Nat, p = q := ⟨p.toNat, by omega⟩
      rw [Int.toNat_natCast]
      obtain rfl | rfl : p = 0 ∨ p = 1 := by omega
      · rfl
      · rfl
    simp [readB, this]
section
variable {cx : Cx} {h : HP} {v : AV} {l : List SStep}
theorem SoftFresh_ok {d : Int} {s : Str} (hl : ∀ n, cx.prot.lets (.obj n) = true) (hv : StepsV h v l) (hsz : ∀ k, (stp l k).ok) (hs : s.size ≤ 9223372036854775807) : Ok tblE cx Fn.eiderdownlaw_SoftFresh (St.enter [v, .int .i64 d, .str s] h) fun v h' => v = .bool true := by
  rw [Ok_eq]
  have hvlen := hv.len
  have hvfg := hv.fg
  have hvld := hv.ld
  simp (config := { maxSteps := 1000000 }) (disch := omega) only [go_sem]
  refine W_callF (S := []) (R := fun v _ => v = .bool true) rfl ⟨rfl, rfl⟩ (by simp only [go_sem]; exact softBegun_ok (by exact hl)) (fun _ _ e => e) ?_
  rintro _ h1 hF1 rfl
  simp (config := { maxSteps := 1000000 }) (disch := omega) only [go_sem, hvlen, hvfg, hvld]
  refine W_callhv (P := fun x => ∃ b, x = .bool b ∧ (b = false → l.length ≤ 200)) h1 rfl ⟨rfl, rfl⟩ rfl (by simp only [go_sem]; exact greatSteps_ok ((hv.to hF1.arg).push)) ?_
  rintro _ ⟨great, rfl, hgr⟩
  cases great with
  | true => simp (config := { maxSteps := 1000000 }) (disch := omega) only [go_sem]
  | false =>
  have h200 := hgr rfl
  simp (config := { maxSteps := 1000000 }) (disch := omega) only [go_sem, hvlen, hvfg, hvld]
  by_cases c100 : (100 : Int) < (s.size : Int)
  · simp (config := { maxSteps := 1000000 }) (disch := omega) only [go_sem, c100]
  simp (config := { maxSteps := 1000000 }) (disch := omega) only [go_sem, c100]
  refine W_callh (v := .ptr (.obj (h1.next + 1)) [] tFiles) (HF h1 fb0) rfl ⟨rfl, rfl⟩ rfl (by simp only [go_sem]; exact SNew_ok) ?_
  have n0 : FilN h1 (HF h1 fb0) (h1.next + 1) fb0 := FilN.new
  generalize h1.next + 1 = f at n0 ⊢
  generalize HF h1 fb0 = h2 at n0 ⊢
  simp (config := { maxSteps := 1000000 }) (disch := omega) only [go_sem]
  refine W_forE (α := HP) l.length (fun k h => ⟨[(0, v), (1, .int .i64 d), (2, .str s), (7, .ptr (.obj f) [] tFiles), (8, .int .i64 k)], [], h⟩) (fun k h => FilN h1 h f (softRun fb0 l k)) h2 (by simp only [go_sem] <;> rfl) n0 fun k h3 hk hN ih => ?_
  obtain ⟨inv, hst⟩ := inv_soft l (F := fb0) Inv.new (by show (0 : Int) ≤ _; omega) k (by omega)
  by_cases hlt : k < l.length
  · obtain ⟨n, rfl, hn⟩ := (hv.to (hN.arg.trans hF1.arg)).ix k hlt
    have hN4 := hN.same (Fr.nw (t := tBed) (v := Bd.enc ⟨.blank, .blank, 0, 0, 0, 0, 0⟩))
    simp (config := { maxSteps := 1000000 }) (disch := omega) only [go_sem, hlt, hn]
    refine W_callh (v := .ptr (.obj h3.next) [] tBed) (h3.nw tBed (Bd.enc ⟨.blank, .blank, 0, 0, 0, 0, 0⟩)) rfl ⟨rfl, rfl⟩ rfl (by simp only [go_sem]; exact NewBed_ok) ?_
    have hn4 : (h3.nw tBed (Bd.enc ⟨.blank, .blank, 0, 0, 0, 0, 0⟩)).look (.arg n) = h3.look (.arg n) := rfl
    simp (config := { maxSteps := 1000000 }) (disch := omega) only [go_sem, hlt, hn, hn4]
    refine W_softStep (h0 := h1) (F := softRun fb0 l k) (B := ⟨.blank, .blank, 0, 0, 0, 0, 0⟩) (x := stp l k) (e := h3.next) (f := f) hl rfl (by simp only [go_sem, List.map]) hN4 look_nw (by have := hN; obtain ⟨_, _, _, hF⟩ := this; exact hF.next) (by show h3.next < h3.next + 1; omega) inv.i0.wf fbW0 (hsz k) fun h4 hN4 hB4 hn4 => ?_
    simp (config := { maxSteps := 1000000 }) (disch := omega) only [go_sem]
    refine ih _ h4 hlt ?_ hN4
    simp only [go_sem]
  · obtain rfl : k = l.length := by omega
    simp (config := { maxSteps := 1000000 }) (disch := omega) only [go_sem, hvlen, hvfg, hvld]
    generalize softRun fb0 l l.length = F at hN inv hst
    obtain ⟨c, hA, hb, hF⟩ := id hN
    simp (config := { maxSteps := 1000000 }) (disch := omega) only [go_sem, hA.fi, hA.ca]
    refine W_callhide rfl ⟨rfl, rfl⟩ (by simp only [go_sem]; exact eDisk (a := F.now) (b := F.disk) hA.push.ca) ?_
    simp (config := { maxSteps := 1000000 }) (disch := omega) only [go_sem, hA.fi, hA.ca]
    refine W_filDo (h0 := h1) (F := F) (x := sMk d s) (f := f) hl rfl (by simp only [go_sem, List.map]) hN inv.i0.wf (stepOk_short (by omega)) fun h4 hN4 hn4 => ?_
    obtain ⟨c4, hA4, _, _⟩ := id hN4
    by_cases hc : doC F (sMk d s) = 0
    rotate_left
    · have hsame := doF_code hc
      rw [hsame] at hA4
      simp (config := { maxSteps := 1000000 }) (disch := omega) only [go_sem, hc, hA4.fi, hA4.ca]
    have inv4 := inv.doF (by omega) (sMk d s)
    obtain ⟨A, k, n, hw⟩ := newFile inv (by omega) hc
    have eA := hw.now
    have hwA := inv4.i0.wf
    rw [eA] at hwA
    have fi4 := hA4.fi
    have ca4 := hA4.ca
    rw [eA] at ca4
    generalize (doF F (sMk d s)).stamp = st4 at fi4
    generalize (doF F (sMk d s)).disk = b4 at ca4
    obtain ⟨_, d0, d3, k4, n8, eslot, eent, edisk, eone, edead, eold, erd⟩ := hw
    have d0' : ¬d < 0 := by omega
    have d3' : ¬3 ≤ d := by omega
    have n8' : ¬(8 : Int) ≤ (n : Int) := by omega
    have n0' : ¬(n : Int) < 0 := by omega
    simp (config := { maxSteps := 1000000 }) (disch := omega) only [go_sem, hc, fi4, ca4]
    refine W_callp rfl ⟨rfl, rfl⟩ (by simp only [go_sem]; exact eFind0 (a := A) (b := b4) (by simp only [go_sem, ca4])) ?_
    rw [eslot]
    have k4' : ¬(4 : Int) ≤ (k : Int) := by omega
    have k0' : ¬(k : Int) < 0 := by omega
    simp (config := { maxSteps := 1000000 }) (disch := omega) only [go_sem, d0', d3', k4', k0', fi4, ca4, eent]
    refine W_callp rfl ⟨rfl, rfl⟩ (by simp only [go_sem]; exact upE (up (Refs_ok (m := F.disk) (below_stk _ _) (by simp only [go_sem, HP.push_rd_own])))) ?_
    rw [edisk]
    simp (config := { maxSteps := 1000000 }) (disch := omega) only [go_sem, fi4, ca4]
    refine W_callp rfl ⟨rfl, rfl⟩ (by simp only [go_sem]; exact upE (up (Refs_ok (m := A) (p := .obj c4) (q := [0]) (below_obj _ _) (by rw [HP.push_rd_ext (below_obj _ _)]; exact (rd_of ca4).1)))) ?_
    rw [eone]
    simp (config := { maxSteps := 1000000 }) (disch := omega) only [go_sem, edead]
    refine W_for 8 (fun j => ⟨[(1, .int .i64 d), (2, .str s), (7, .ptr (.obj f) [] tFiles), (9, .ptr (.stk cx.lvl 9) [] tImage), (12, .ptr (.stk cx.lvl 12) [] tEntry), (13, .int .i64 j)], [(9, ⟨tImage, F.now.enc⟩), (12, ⟨tEntry, Ent.enc ⟨s, n, F.stamp + 1⟩⟩)], h4⟩) (by simp only [go_sem] <;> rfl) fun j hj ih => ?_
    by_cases hlt : j < 8
    · cases cl : (F.now.ino j).live with
      | false =>
        simp (config := { maxSteps := 1000000 }) (disch := omega) only [go_sem, hlt, cl]
        refine ih _ hlt ?_
        simp only [go_sem]
      | true =>
        obtain ⟨o1, o2⟩ := eold j hlt cl
        have o1' : ¬(F.stamp + 1) ≤ (F.now.ino j).stamp := by omega
        simp (config := { maxSteps := 1000000 }) (disch := omega) only [go_sem, hlt, cl, o1', fi4, ca4, o2]
        refine ih _ hlt ?_
        simp only [go_sem]
    · obtain rfl : j = 8 := by omega
      simp (config := { maxSteps := 1000000 }) (disch := omega) only [go_sem]
      refine W_for 2 (fun p => ⟨[(1, .int .i64 d), (2, .str s), (7, .ptr (.obj f) [] tFiles), (14, .int .i64 p)], [], h4⟩) (by simp only [go_sem] <;> rfl) fun p hp ih => ?_
      by_cases hlt : p < 2
      · obtain ⟨r1, r2⟩ := erd p (by omega) (by omega)
        simp (config := { maxSteps := 1000000 }) (disch := omega) only [go_sem, hlt]
        refine W_callp rfl ⟨rfl, rfl⟩ (by simp only [go_sem]; exact Read_ok (h := h4.push cx.lvl []) (f := f) (c := c4) (a := A) (b := b4) (st := st4) fi4 ca4 hwA hs) ?_
        rw [r1, r2]
        simp (config := { maxSteps := 1000000 }) (disch := omega) only [go_sem, encR]
        refine ih _ hlt ?_
        simp only [go_sem]
      · obtain rfl : p = 2 := by omega
        simp (config := { maxSteps := 1000000 }) (disch := omega) only [go_sem]
end
end Go.Mini

