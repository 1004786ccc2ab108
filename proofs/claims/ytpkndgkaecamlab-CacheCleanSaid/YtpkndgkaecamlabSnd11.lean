/- A part of the proof: Snd11. -/
import Derived.Test.YtpkndgkaecamlabFrame
namespace Go.Mini
open Go.RowKit
set_option linter.unusedSimpArgs false
set_option linter.unusedVariables false

section
variable {φ : Nat → Option FuncId} {β : Beta} {P : Program} {O : Nat → Prop} {w w' : World} {look look' : Id → Option Blk} {nt : Nat} {cx : Cx} {s s' : St} {a : Act} {T : Nat → Option MFun}

def resV (tmps : Array Value) : ResultVar → Sem Value
  | .tmp t => pure (tmps.getD t undef)
  | .cell t ty => do loadVar ty (← asAddr (tmps.getD t undef))
theorem results_eq (f : Func) (tmps : Array Value) : Go.results f tmps = (do let vs ← f.results.mapM (resV tmps); pure (if h : vs.size = 1 then vs[0] else .tuple vs)) := rfl

/-- What a result may be: it leads to no local block. -/
def AV.resOk (v : AV) : Prop := v.safe = true ∨ ∃ u, v = .tup u

theorem resOf_sound {r : ResultVar} {m : MRes} {v : AV} {rs : List ResultVar} {ms : List MRes} (h : Rel φ β O nt cx s a w) (hm : matchRes P (r :: rs) (m :: ms) = true) (hv : resOf cx s m = some v) :
    ∃ x, (resV a.tmps r).run P w = .ok x w ∧ VR φ β v x ∧ v.safe = true := by
  cases r with
  | tmp t =>
    cases m with
    | cell => simp [matchRes] at hm
    | tmp u =>
      simp [matchRes] at hm
      obtain ⟨rfl, _⟩ := hm
      simp only [resOf] at hv
      split at hv
      · rename_i hs
        simp at hv
        subst hv
        exact ⟨_, rfl, h.slots t, hs⟩
      · simp at hv
  | cell t ty =>
    cases m with
    | tmp => simp [matchRes] at hm
    | cell u uy =>
      simp [matchRes] at hm
      obtain ⟨⟨rfl, hty⟩, _⟩ := hm
      simp only [resOf] at hv
      have hsl := h.slots t
      split at hv
      · rename_i i t' hg
        rw [hg] at hsl
        split at hv
        · rename_i he
          subst he
          cases hl : s.look cx i with
          | none => simp [hl] at hv
          | some b =>
            simp only [hl, Option.bind_some] at hv
            split at hv
            · rename_i hb
              simp at hv
              subst hv
              obtain ⟨pl, o, hbt, hf, hx⟩ := LR_ptr hsl
              obtain ⟨y, hy, hvy⟩ := run_load (P := P) h.mem hty hsl hl (v := b.val) (by cases b.val <;> rfl)
              obtain ⟨pl', cs, T', fr, hB⟩ := h.mem.live i b hl
              refine ⟨y, ?_, hvy, Ty.fits_safe hB.fits⟩
              simp only [resV]
              rw [hx] at hy ⊢
              simp only [asAddr, Sem.run_bind, Sem.run_pure, Result.andThen_ok]
              simpa [Instr.loadAt, Instr.sureAddr, Sem.run_bind] using hy
            · simp at hv
        · simp at hv
      · simp at hv

theorem resList_sound (h : Rel φ β O nt cx s a w) : ∀ {rs : List ResultVar} {ms : List MRes} {v : AV}, matchRes P rs ms = true → resList cx s ms = some v →
    ∃ xs : List Value, (rs.mapM (resV a.tmps)).run P w = .ok xs w ∧ TR φ β v xs ∧ xs.length = ms.length
  | [], [], v, _, hv => by simp [resList] at hv; subst hv; exact ⟨[], rfl, trivial, rfl⟩
  | [], _ :: _, _, hm, _ => by simp [matchRes] at hm
  | r :: rs, [], _, hm, _ => by cases r <;> simp [matchRes] at hm
  | r :: rs, m :: ms, v, hm, hv => by
    have hm' : matchRes P rs ms = true := by cases r <;> cases m <;> simp [matchRes] at hm <;> exact hm.2
    simp only [resList] at hv
    cases h1 : resOf cx s m with
    | none => simp [h1] at hv
    | some u =>
      cases h2 : resList cx s ms with
      | none => simp [h1, h2] at hv
      | some t =>
        simp [h1, h2] at hv
        subst hv
        obtain ⟨x, hx, hvx, hs⟩ := resOf_sound h hm h1
        obtain ⟨xs, hxs, ht, hlen⟩ := resList_sound h hm' h2
        refine ⟨x :: xs, ?_, ⟨hs, ?_, ht⟩, by simp [hlen]⟩
        · simp only [List.mapM_cons, Sem.run_bind]
          rw [hx]
          simp only [Result.andThen_ok, Sem.run_bind, hxs, Sem.run_pure]
        · cases u <;> first | exact hvx | simp [AV.safe] at hs

theorem matchRes_len : ∀ {rs : List ResultVar} {ms : List MRes}, matchRes P rs ms = true → rs.length = ms.length
  | [], [], _ => rfl
  | [], _ :: _, hm => by simp [matchRes] at hm
  | r :: rs, [], hm => by cases r <;> simp [matchRes] at hm
  | r :: rs, m :: ms, hm => by
    have hm' : matchRes P rs ms = true := by cases r <;> cases m <;> simp [matchRes] at hm <;> exact hm.2
    simp [matchRes_len hm']

theorem results_sound {f : Func} {ms : List MRes} {v : AV} (h : Rel φ β O nt cx s a w) (hm : matchRes P f.results.toList ms = true) (hv : results cx s ms = some v) :
    ∃ x, (Go.results f a.tmps).run P w = .ok x w ∧ VR φ β v x ∧ v.resOk := by
  have conv : ∀ (xs : List Value), (f.results.toList.mapM (resV a.tmps)).run P w = .ok xs w →
      (Go.results f a.tmps).run P w = .ok (if h : xs.toArray.size = 1 then xs.toArray[0] else .tuple xs.toArray) w := by
    intro xs hxs
    rw [results_eq, Sem.run_bind, Array.mapM_eq_mapM_toList]
    simp only [Sem.run_map, hxs, Result.andThen_ok, Sem.run_pure]
  have hlen := matchRes_len hm
  match ms, hv with
  | [r], hv =>
    simp only [results] at hv
    cases hl : f.results.toList with
    | nil => rw [hl] at hlen; simp at hlen
    | cons q qs =>
      cases qs with
      | cons => rw [hl] at hlen; simp at hlen
      | nil =>
        rw [hl] at hm
        obtain ⟨x, hx, hvx, hs⟩ := resOf_sound h hm hv
        refine ⟨x, ?_, hvx, .inl hs⟩
        rw [conv [x] (by rw [hl]; simp only [List.mapM_cons, List.mapM_nil, Sem.run_bind]; rw [hx]; simp)]
        simp
  | [], hv =>
    simp only [results, resList, Option.map_some, Option.some.injEq] at hv
    subst hv
    obtain ⟨xs, hxs, ht, hl⟩ := resList_sound h hm (v := .unit) rfl
    have : xs = [] := List.length_eq_zero_iff.1 (by simpa using hl)
    subst this
    exact ⟨_, conv [] hxs, ⟨[], by simp, trivial⟩, .inr ⟨_, rfl⟩⟩
  | r :: r' :: rs, hv =>
    simp only [results, Option.map_eq_some_iff] at hv
    obtain ⟨u, hu, rfl⟩ := hv
    obtain ⟨xs, hxs, ht, hl⟩ := resList_sound h hm hu
    refine ⟨_, conv xs hxs, ⟨xs, ?_, ht⟩, .inr ⟨_, rfl⟩⟩
    rw [dif_neg]
    simp [hl]
end
end Go.Mini
