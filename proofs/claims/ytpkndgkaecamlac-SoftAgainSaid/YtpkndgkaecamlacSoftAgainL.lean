/- A part of the proof: the statement SoftAgain, over the model of its code. -/
import Derived.Test.YtpkndgkaecamlacScS

namespace Go.Mini
set_option linter.unusedSimpArgs false
set_option linter.unusedVariables false
set_option maxHeartbeats 4000000
set_option maxRecDepth 100000
theorem FilN.sync {h0 h : HP} {f c : Nat} {F : Fl} {b : Img} (hA : FilAt h f c F) (hb : h0.next ≤ f ∧ h0.next ≤ c) (hF : Fr h0 h []) : FilN h0 (h.ob c tCache (encC F.now b)) f { F with disk := b } :=
  ⟨c, ⟨by rw [look_ob_ne hA.fc]; exact hA.fi, look_ob, hA.fc, hA.fn, hA.cn⟩, hb, hF.since (S := [c]) (Fr.ob (by simp)) (by simpa using hb.2)⟩
end Go.Mini
namespace Go.Mini
set_option linter.unusedSimpArgs false
set_option linter.unusedVariables false
set_option maxHeartbeats 4000000
set_option maxRecDepth 100000

theorem mem_namesL {a : Img} {d : Nat} {x : Str} : ∀ {k}, x ∈ namesL a d k → ∃ s, s < k ∧ (a.ent d s).name = x ∧ ¬x = ⟨#[]⟩
  | 0, h => by simp [namesL] at h
  | k + 1, h => by
    unfold namesL at h
    split at h
    · obtain ⟨s, hs, e⟩ := mem_namesL h; exact ⟨s, by omega, e⟩
    · rename_i hn
      rcases List.mem_append.1 h with h | h
      · obtain ⟨s, hs, e⟩ := mem_namesL h; exact ⟨s, by omega, e⟩
      · simp at h; subst h; exact ⟨k, by omega, rfl, hn⟩
theorem mem_listOf {a : Img} {d : Int} {x : Str} (h : x ∈ listOf a d) : (0 ≤ d ∧ d < 3) ∧ ∃ s, s < 4 ∧ (a.ent d.toNat s).name = x ∧ ¬x = ⟨#[]⟩ := by
  unfold listOf at h
  split at h
  · simp at h
  · exact ⟨by omega, mem_namesL ((sortS_perm _).mem_iff.1 h)⟩
theorem mem_slotOf {a : Img} {d : Int} {x : Str} (h : x ∈ listOf a d) : 0 ≤ slotOf a d x := by
  obtain ⟨⟨d0, d3⟩, s, hs, e, hx⟩ := mem_listOf h
  rcases slotOf_cases a d x with e' | ⟨k, _, e', _⟩
  · exact absurd e (slot_none d0 d3 hx (by omega) s hs)
  · omega
theorem mem_read {a : Img} {d p : Int} {x : Str} (hc : Ck a) (h : x ∈ listOf a d) (p0 : 0 ≤ p) (p2 : p < 2) : readC a d x p = 0 := by
  obtain ⟨⟨d0, d3⟩, s, hs, e, hx⟩ := mem_listOf h
  have hn : isName x = true := by
    rcases hc.en d.toNat s (by omega) hs with e0 | ⟨_, e1, _⟩
    · rw [e0] at e; exact absurd e.symm hx
    · rw [e] at e1; exact e1
  have hf : stepFault ⟨6, d, 0, p, x, ⟨#[]⟩, ⟨#[]⟩⟩ = 0 := by
    have : dirFaultN d x = 0 := by unfold dirFaultN; rw [if_neg (by omega), if_pos hn]
    unfold stepFault
    rw [if_neg (by simp), if_neg (by simpa using this), if_neg (by simp), if_neg (by dsimp only; omega), if_neg (by simp)]
  unfold readC
  rw [if_neg (by simpa using hf), if_neg (by have := mem_slotOf h; omega)]
theorem mem_sure {a : Img} {d : Int} {x : Str} (h : x ∈ listOf a d) : sureB a a d x = true := by
  have := mem_slotOf h
  simp [sureB, this]
theorem mem_size {a : Img} {d : Int} {x : Str} (hc : Ck a) (h : x ∈ listOf a d) : x.size ≤ 9223372036854775807 := by
  obtain ⟨⟨d0, d3⟩, s, hs, e, hx⟩ := mem_listOf h
  have hn : isName x = true := by
    rcases hc.en d.toNat s (by omega) hs with e0 | ⟨_, e1, _⟩
    · rw [e0] at e; exact absurd e.symm hx
    · rw [e] at e1; exact e1
  simp [isName] at hn
  omega
theorem txt_mem {l : List Str} {i : Nat} (h : i < l.length) : txt l i ∈ l := by
  simp [txt, h]
theorem SlX_of {h h1 h2 : HP} {v : AV} {l : List Str} {k : Nat} (a : SlF h h1 v l) (b : Fr h1 h2 []) : SlX h2 k v l := by
  rcases a with a | ⟨q, rfl, h1, h2, h3⟩
  · exact .inl a
  · exact .inr ⟨.obj q, rfl, below_obj _ _, b.look h2 (by simp) h3⟩
theorem SlX_ofp {h h1 h2 : HP} {v : AV} {l : List Str} {k k' : Nat} {o : Own} (a : SlF h h1 v l) (b : Fr h1 h2 []) : SlX (h2.push k' o) k v l := by
  rcases a with a | ⟨q, rfl, h1, h2, h3⟩
  · exact .inl a
  · exact .inr ⟨.obj q, rfl, below_obj _ _, b.look h2 (by simp) h3⟩
def Two (f g : Nat) (F G : Fl) (h : HP) : Prop := (∃ c, FilAt h f c F) ∧ ∃ c, FilAt h g c G
theorem Two.same {f g : Nat} {F G : Fl} {h h1 : HP} (a : Two f g F G h) (b : Fr h h1 []) : Two f g F G h1 := by
  obtain ⟨⟨c, a1⟩, ⟨e, a2⟩⟩ := a
  exact ⟨⟨c, a1.same b (by simp) (by simp)⟩, ⟨e, a2.same b (by simp) (by simp)⟩⟩
section
variable {cx : Cx} {h : HP} {v : AV} {l : List SStep}
theorem SoftAgain_ok (hl : ∀ n, cx.prot.lets (.obj n) = true) (hv : StepsV h v l) (hsz : ∀ k, (stp l k).ok) : Ok tblE cx Fn.eiderdownlaw_SoftAgain (St.enter [v] h) fun v h' => v = .bool true := by
  rw [Ok_eq]
  have hvlen := hv.len
  have hvfg := hv.fg
  have hvld := hv.ld
  simp (config := { maxSteps := 1000000 }) (disch := omega) only [go_sem]
  refine W_callF (S := []) (R := fun v _ => v = .bool true) rfl ⟨rfl, rfl⟩ (by simp only [go_sem]; exact softBegun_ok (by exact hl)) (fun _ _ e => e) ?_
  rintro _ h1 hF1 rfl
  simp (config := { maxSteps := 1000000 }) (disch := omega) only [go_sem, hvlen, hvfg, hvld]
  refine W_callhv (P := fun x => ∃ b, x = .bool b ∧ (b = false → l.length ≤ 200)) h1 rfl ⟨rfl, rfl⟩ rfl (by simp only [go_sem]; exact greatSteps_ok ((hv.to hF1.arg).push)) ?_
  rintro _ ⟨great, rfl, hgr⟩
  cases great with
  | true => simp (config := { maxSteps := 1000000 }) (disch := omega) only [go_sem]
  | false =>
  have h200 := hgr rfl
  simp (config := { maxSteps := 1000000 }) (disch := omega) only [go_sem, hvlen, hvfg, hvld]
  refine W_callh (v := .ptr (.obj (h1.next + 1)) [] tFiles) (HF h1 fb0) rfl ⟨rfl, rfl⟩ rfl (by simp only [go_sem]; exact SNew_ok) ?_
  have n0 : FilN h1 (HF h1 fb0) (h1.next + 1) fb0 := FilN.new
  generalize h1.next + 1 = f at n0 ⊢
  generalize HF h1 fb0 = h2 at n0 ⊢
  simp (config := { maxSteps := 1000000 }) (disch := omega) only [go_sem]
  refine W_forE (α := HP) l.length (fun k h => ⟨[(0, v), (3, .ptr (.obj f) [] tFiles), (4, .int .i64 k)], [], h⟩) (fun k h => FilN h1 h f (softRun fb0 l k)) h2 (by simp only [go_sem] <;> rfl) n0 fun k h3 hk hN ih => ?_
  obtain ⟨inv, hst⟩ := inv_soft l (F := fb0) Inv.new (by show (0 : Int) ≤ _; omega) k (by omega)
  by_cases hlt : k < l.length
  · obtain ⟨n, rfl, hn⟩ := (hv.to (hN.arg.trans hF1.arg)).ix k hlt
    have hN4 := hN.same (Fr.nw (t := tBed) (v := Bd.enc ⟨.blank, .blank, 0, 0, 0, 0, 0⟩))
    simp (config := { maxSteps := 1000000 }) (disch := omega) only [go_sem, hlt, hn]
    refine W_callh (v := .ptr (.obj h3.next) [] tBed) (h3.nw tBed (Bd.enc ⟨.blank, .blank, 0, 0, 0, 0, 0⟩)) rfl ⟨rfl, rfl⟩ rfl (by simp only [go_sem]; exact NewBed_ok) ?_
    have hn4 : (h3.nw tBed (Bd.enc ⟨.blank, .blank, 0, 0, 0, 0, 0⟩)).look (.arg n) = h3.look (.arg n) := rfl
    simp (config := { maxSteps := 1000000 }) (disch := omega) only [go_sem, hlt, hn, hn4]
    refine W_softStep (h0 := h1) (F := softRun fb0 l k) (B := ⟨.blank, .blank, 0, 0, 0, 0, 0⟩) (x := stp l k) (e := h3.next) (f := f) hl rfl (by simp only [go_sem, List.map]) hN4 look_nw (by have := hN; obtain ⟨_, _, _, hF⟩ := this; exact hF.next) (by show h3.next < h3.next + 1; omega) inv.i0.wf fbW0 (hsz k) fun h4 hN4 hB4 hn4 => ?_
    simp (config := { maxSteps := 1000000 }) (disch := omega) only [go_sem]
    refine ih _ h4 hlt ?_ hN4
    simp only [go_sem]
  · obtain rfl : k = l.length := by omega
    simp (config := { maxSteps := 1000000 }) (disch := omega) only [go_sem, hvlen, hvfg, hvld]
    generalize softRun fb0 l l.length = F at hN inv hst
    obtain ⟨c, hA, hb, hF⟩ := id hN
    obtain ⟨_, kt⟩ := sync_ok inv
    simp (config := { maxSteps := 1000000 }) (disch := omega) only [go_sem, hA.fi]
    refine W_callh (v := .int .i64 (syncK F.now F.disk)) (h3.ob c tCache (encC F.now (syncTo F.now F.disk))) rfl ⟨rfl, rfl⟩ rfl (by simp only [go_sem]; exact eSync (by exact hl) (by simp only [go_sem, hA.ca])) ?_
    rw [kt]
    have hN5 : FilN h1 (h3.ob c tCache (encC F.now F.now)) f { F with disk := F.now } := FilN.sync hA hb hF
    generalize h3.ob c tCache (encC F.now F.now) = h4 at hN5 ⊢
    generalize hm : F.now = m at hN5 ⊢
    have hc := inv.cn
    have hs := inv.i0.sn
    have hck := Ck.of hc
    have hw := WF_check hc
    rw [hm] at hc hs hck hw
    have hx : exact m = true := by rw [← hm]; exact inv.ex
    obtain ⟨c, hA, hb, hF⟩ := id hN5
    simp (config := { maxSteps := 1000000 }) (disch := omega) only [go_sem, hA.fi]
    refine W_callp rfl ⟨rfl, rfl⟩ (by simp only [go_sem]; exact eDisk (a := m) (b := m) (by simp only [go_sem, hA.ca])) ?_
    simp (config := { maxSteps := 1000000 }) (disch := omega) only [go_sem]
    refine W_callh (v := .ptr (.obj (h4.next + 1)) [] tFiles) (HF h4 ⟨m, m, maxSt m 8⟩) rfl ⟨rfl, rfl⟩ rfl (by simp only [go_sem]; exact SOf_ok (fun n _ => hl n) hs hc) ?_
    have hT : Two f (h4.next + 1) { F with disk := m, now := m } ⟨m, m, maxSt m 8⟩ (HF h4 ⟨m, m, maxSt m 8⟩) := by
      refine ⟨⟨c, ?_⟩, ⟨h4.next, HF_F, HF_C, by omega, by show h4.next + 1 < h4.next + 1 + 1; omega, by show h4.next < h4.next + 1 + 1; omega⟩⟩
      exact FilAt.same (by cases hm; exact hA) HF_fr (by simp) (by simp)
    generalize h4.next + 1 = g at hT ⊢
    generalize HF h4 ⟨m, m, maxSt m 8⟩ = h5 at hT ⊢
    generalize hF' : ({ F with disk := m, now := m } : Fl) = F' at hT
    generalize hG' : (⟨m, m, maxSt m 8⟩ : Fl) = G' at hT
    have eF1 : F'.now = m := by rw [← hF']
    have eF2 : F'.disk = m := by rw [← hF']
    have eG1 : G'.now = m := by rw [← hG']
    have eG2 : G'.disk = m := by rw [← hG']
    clear hF' hG'
    obtain ⟨⟨cf, hAf⟩, ⟨cg, hAg⟩⟩ := id hT
    simp (config := { maxSteps := 1000000 }) (disch := omega) only [go_sem, hAf.fi, hAf.ca, hAg.fi, hAg.ca, eF1, eG1]
    refine W_forE (α := HP) 3 (fun d H => ⟨[(3, .ptr (.obj f) [] tFiles), (5, .ptr (.obj g) [] tFiles), (6, .int .i64 d)], [], H⟩) (fun _ H => Two f g F' G' H) h5 (by simp only [go_sem] <;> rfl) hT fun d h6 hd hT6 ih => ?_
    by_cases hlt : d < 3
    · obtain ⟨⟨cf, hAf⟩, ⟨cg, hAg⟩⟩ := id hT6
      simp (config := { maxSteps := 1000000 }) (disch := omega) only [go_sem, hlt]
      refine W_callF (S := []) (R := fun v h' => SlF h6 h' v (listOf F'.now d)) rfl ⟨rfl, rfl⟩ (by simp only [go_sem]; exact List_ok (h := h6.push cx.lvl []) (f := f) (c := cf) (a := F'.now) (b := F'.disk) (st := F'.stamp) (by exact hl) hAf.fi hAf.ca) (fun v h1 e => e) ?_
      rintro v7 h7 hF7 hs7
      obtain ⟨⟨cf, hAf⟩, ⟨cg, hAg⟩⟩ := hT6.same hF7
      simp (config := { maxSteps := 1000000 }) (disch := omega) only [go_sem]
      refine W_callF (S := []) (R := fun v h' => SlF h7 h' v (listOf G'.now d)) rfl ⟨rfl, rfl⟩ (by simp only [go_sem]; exact List_ok (h := h7.push cx.lvl []) (f := g) (c := cg) (a := G'.now) (b := G'.disk) (st := G'.stamp) (by exact hl) hAg.fi hAg.ca) (fun v h1 e => e) ?_
      rintro v8 h8 hF8 hs8
      have hT8 := (hT6.same hF7).same hF8
      rw [eF1] at hs7
      rw [eG1] at hs8
      have l4 : (listOf m d).length ≤ 4 := by
        unfold listOf
        split
        · simp
        · rw [(sortS_perm _).length_eq]; exact namesL_len _ _ _
      simp (config := { maxSteps := 1000000 }) (disch := omega) only [go_sem]
      refine W_callp rfl ⟨rfl, rfl⟩ (by simp only [go_sem]; exact SameTexts_ok (l := listOf m d) (m := listOf m d) (SlX_ofp hs7 hF8) (SlX_ofp hs8 (Fr.refl _ [])) (by omega)) ?_
      simp (config := { maxSteps := 1000000 }) (disch := omega) only [go_sem]
      have hs9 : SlX h8 cx.lvl v7 (listOf m d) := SlX_of hs7 hF8
      have hlen9 := hs9.len
      refine W_forE (α := HP) (listOf m d).length (fun i H => ⟨[(3, .ptr (.obj f) [] tFiles), (5, .ptr (.obj g) [] tFiles), (6, .int .i64 d), (7, v7), (8, .int .i64 i)], [], H⟩) (fun _ H => H = h8) h8 (by simp only [go_sem] <;> rfl) rfl fun i H hi hH ih2 => ?_
      subst hH
      by_cases hlt2 : i < (listOf m d).length
      · obtain ⟨⟨cf, hAf⟩, ⟨cg, hAg⟩⟩ := id hT8
        have hmem := txt_mem hlt2
        rcases hs7 with ⟨_, e7⟩ | ⟨q, rfl, hq1, hq2, hq3⟩
        · rw [e7] at hlt2; simp at hlt2
        have hq4 := hF8.look hq2 (by simp) hq3
        simp (config := { maxSteps := 1000000 }) (disch := omega) only [go_sem, hlen9, hlt2, hq4]
        refine W_callp rfl ⟨rfl, rfl⟩ (by simp only [go_sem]; exact Sure_ok (h := H.push cx.lvl []) (f := f) (c := cf) (a := F'.now) (b := F'.disk) (st := F'.stamp) hAf.fi hAf.ca) ?_
        rw [eF1, eF2, mem_sure hmem]
        simp (config := { maxSteps := 1000000 }) (disch := omega) only [go_sem, hlen9, hlt2, hq4]
        refine W_callp rfl ⟨rfl, rfl⟩ (by simp only [go_sem]; exact Sure_ok (h := H.push cx.lvl []) (f := g) (c := cg) (a := G'.now) (b := G'.disk) (st := G'.stamp) hAg.fi hAg.ca) ?_
        rw [eG1, eG2, mem_sure hmem]
        simp (config := { maxSteps := 1000000 }) (disch := omega) only [go_sem]
        refine W_for 2 (fun p => ⟨[(3, .ptr (.obj f) [] tFiles), (5, .ptr (.obj g) [] tFiles), (6, .int .i64 d), (7, .sl (.obj q) 0 (listOf m d).length), (8, .int .i64 i), (9, .int .i64 p)], [], H⟩) (by simp only [go_sem] <;> rfl) fun p hp ih3 => ?_
        by_cases hlt3 : p < 2
        · simp (config := { maxSteps := 1000000 }) (disch := omega) only [go_sem, hlt3, hlt2, hq4]
          refine W_callp rfl ⟨rfl, rfl⟩ (by simp only [go_sem]; exact Read_ok (h := H.push cx.lvl []) (f := f) (c := cf) (a := F'.now) (b := F'.disk) (st := F'.stamp) hAf.fi hAf.ca (by rw [eF1]; exact hw) (mem_size hck hmem)) ?_
          rw [eF1, mem_read hck hmem (by omega) (by omega)]
          simp (config := { maxSteps := 1000000 }) (disch := omega) only [go_sem, encR, hlt2, hq4]
          refine W_callp rfl ⟨rfl, rfl⟩ (by simp only [go_sem]; exact Read_ok (h := H.push cx.lvl []) (f := g) (c := cg) (a := G'.now) (b := G'.disk) (st := G'.stamp) hAg.fi hAg.ca (by rw [eG1]; exact hw) (mem_size hck hmem)) ?_
          rw [eG1, mem_read hck hmem (by omega) (by omega)]
          simp (config := { maxSteps := 1000000 }) (disch := omega) only [go_sem, encR]
          refine ih3 _ hlt3 ?_
          simp only [go_sem]
        · obtain rfl : p = 2 := by omega
          simp (config := { maxSteps := 1000000 }) (disch := omega) only [go_sem]
          refine ih2 _ H hlt2 ?_ rfl
          simp only [go_sem]
      · obtain rfl : i = (listOf m d).length := by omega
        simp (config := { maxSteps := 1000000 }) (disch := omega) only [go_sem, hlen9]
        refine ih _ H hlt ?_ hT8
        simp only [go_sem]
    · obtain rfl : d = 3 := by omega
      simp (config := { maxSteps := 1000000 }) (disch := omega) only [go_sem]
end
end Go.Mini

