/- A part of the proof: Snd13. -/
import Derived.Test.YtpkndgkaecamlabSnd12
namespace Go.Mini
open Go.RowKit
set_option linter.unusedSimpArgs false
set_option linter.unusedVariables false

section
variable {φ : Nat → Option FuncId} {β : Beta} {P : Program} {O : Nat → Prop} {w w' : World} {look look' : Id → Option Blk} {nt : Nat} {cx : Cx} {s s' s1 : St} {a : Act} {T : Nat → Option MFun} {draw : Array Oper → List MOp → Bool}

theorem eff_lets {d : Option Nat} {esc : Bool} {e : Eff} {v : AV} (h : applyEff cx d esc s e = some (v, s')) : e.lets := by
  cases e with
  | val => trivial
  | new => trivial
  | wr i b u =>
    simp only [applyEff, Option.map_eq_some_iff] at h
    obtain ⟨s1, hw, _⟩ := h
    exact (look_write hw).1
  | grow j b n =>
    cases d with
    | none => simp [applyEff] at h
    | some t =>
      simp only [applyEff, Option.map_eq_some_iff] at h
      obtain ⟨s1, hw, _⟩ := h
      exact (look_drop hw).1

/-- What is known of a function that may be called. -/
theorem fn_facts {F : FuncId} {fn : MFun} (h : matchFn P φ draw F fn = true) : ∃ f c, P.funcs[F]? = some f ∧ f.body = some c ∧ matchC P φ f.ntmps draw c fn.body = true ∧ matchRes P f.results.toList fn.res = true ∧ fn.params + fn.nfree ≤ f.ntmps ∧ (f.name == "runtime.NumGoroutine") = false := by
  unfold matchFn at h
  cases hf : P.funcs[F]? with
  | none => simp [hf] at h
  | some f =>
    simp only [hf, Bool.and_eq_true] at h
    cases hb : f.body with
    | none => simp [hb] at h
    | some c =>
      simp only [hb, decide_eq_true_eq, Bool.not_eq_true'] at h
      exact ⟨f, c, rfl, hb, h.1.1.1, h.1.1.2, h.1.2, h.2⟩

theorem run_callFunc {F : FuncId} {fn : MFun} {args : Array Value} (h : matchFn P φ draw F fn = true) : (callFunc F args).run P w = .ok (.enter F args) w := by
  obtain ⟨f, c, hf, hb, _, _, _, hn⟩ := fn_facts h
  simp only [callFunc, Sem.run_bind, run_program, Result.andThen_ok, hf, hn, Bool.false_eq_true, if_false, hb, Option.isNone_some, Sem.run_pure]

/-- What a callee may touch: not what it is not to see. -/
def veilO (O : Nat → Prop) (cx : Cx) (s : St) (hide : List Nat) (β : Beta) : Nat → Prop :=
  fun r => O r ∧ ∀ t b pl, has hide t = true → s.own.get t = some b → β (.stk cx.lvl t) = some pl → r ≠ pl.r

theorem HR_veil {hide : List Nat} (h : HR φ β O (s.look cx) w) : HR φ β (veilO O cx s hide β) (s.hp.push cx.lvl (s.own.veil hide)).look w := by
  have hl : ∀ i b, (s.hp.push cx.lvl (s.own.veil hide)).look i = some b → s.look cx i = some b ∧ ∀ t, i = .stk cx.lvl t → has hide t = false := by
    intro i b hb
    rw [push_look_veil] at hb
    simp only at hb
    cases ho : i.own cx.lvl with
    | none => simp only [ho] at hb; exact ⟨hb, fun t e => by subst e; simp [Id.own] at ho⟩
    | some t =>
      simp only [ho] at hb
      split at hb
      · simp at hb
      · rename_i hh
        refine ⟨hb, fun t' e => ?_⟩
        subst e
        simp [Id.own] at ho
        subst ho
        simpa using hh
  refine ⟨fun i b hb => ?_, fun i j bi bj pi pj hi hj => h.apart i j bi bj pi pj (hl i bi hi).1 (hl j bj hj).1⟩
  obtain ⟨hb', hne⟩ := hl i b hb
  obtain ⟨pl, cs, T, fr, hB⟩ := h.live i b hb'
  refine ⟨pl, cs, T, fr, hB.place, hB.ty, hB.fits, hB.heap, hB.room, hB.size, hB.cells, fun hi => ⟨(hB.own hi).1, (hB.own hi).2, ?_⟩⟩
  intro t b' pl' hht ho hp e
  have hlk : s.look cx (.stk cx.lvl t) = some b' := by rw [look_stk]; exact ho
  have := (h.apart i (.stk cx.lvl t) b b' pl pl' hb' hlk hB.place hp (fun e => by rw [hne t e] at hht; simp at hht) e).2
  simp [Id.isArg] at this

/-- A call, in the caller. -/
theorem call_step {n : Nat} {oper : Oper} {d : Option Nat} {F : FuncId} {f : Nat} {prot : Bool} {hide : List Nat} {args caps : List AV} {rargs rcaps : List Value} {K : Act → World → Prop} {Q : Exit → Act → World → Prop} (hT : TblOk P T φ draw) (ih : ∀ m, m < n → CallSim P T φ draw m)
    (h : Rel φ β O nt cx s a w) (hdst : oper.dst = d) (hd : ∀ t, d = some t → t < nt) (hF : φ f = some F) (hr : (execOp a.eval oper).run P w = .ok (.enter F (rargs ++ rcaps).toArray) w ∨ ∀ g, T f = some g → (execOp a.eval oper).run P w = .ok (.enter F (rargs ++ rcaps).toArray) w) (ha : All2 (VR φ β) args rargs) (hc : All2 (VR φ β) caps rcaps)
    (hs : match enterCmd T cx prot hide f args caps d [] s with
      | .go _ s2 => s1 = s2
      | .call cx' hide fn e _ _ _ => ∃ m s2, m < n ∧ run T m cx' [.code fn.body] e = some s2 ∧ back cx cx' hide fn d s s2 = some s1
      | _ => False)
    (hK : ∀ a' w' β', Rel φ β' O nt cx s1 a' w' → SameBut w w' O → Ext cx.lvl s.hp.next β β' → s.hp.next ≤ s1.hp.next → K a' w') :
    oper.wp P a w K Q := by
  unfold enterCmd at hs
  cases hTf : T f with
  | none => simp [hTf] at hs
  | some fn =>
    simp only [hTf] at hs
    by_cases hpar : fn.params = args.length ∧ fn.nfree = caps.length
    · simp only [if_pos hpar] at hs
      obtain ⟨m, s2, hm, hrun, hback⟩ := hs
      unfold back at hback
      simp only [Option.map_eq_some_iff] at hback
      obtain ⟨v, hv, rfl⟩ := hback
      have hmf := hT f fn F hTf hF
      have hr' : (execOp a.eval oper).run P w = .ok (.enter F (rargs ++ rcaps).toArray) w := by
        rcases hr with hr | hr
        · exact hr
        · exact hr fn hTf
      have harg : ∀ k, s2.look (s.callCx cx prot) (.arg k) = s.look cx (.arg k) := by
        intro k
        exact (run_frame (i := .arg k) hrun trivial).1
      have hcall := ih m hm (s.callCx cx prot) fn F (args ++ caps) (s.hp.push cx.lvl (s.own.veil hide)) s2 v β (veilO O cx s hide β) (rargs ++ rcaps) w hmf hrun hv (by simp [hpar.1, hpar.2]) (ha.append hc)
        (HR_veil h.mem) (fun i pl hb => h.dom i pl hb) (fun l hl => by
          have : l ≠ cx.lvl := by simp [St.callCx] at hl; omega
          simp only [HP.push, if_neg this]
          exact h.top l (by simp [St.callCx] at hl; omega)) (fun r hr => ⟨h.fresh r hr, fun t b pl _ ho hp e => by
            have := HR_lt h.mem (i := .stk cx.lvl t) (by rw [look_stk]; exact ho) hp
            omega⟩)
      unfold Oper.wp
      rw [hr']
      simp only [Oper.upon]
      refine hcall.mono fun en w'' hen => ?_
      obtain ⟨x, β', rfl, hvx, hok, hA⟩ := hen
      obtain ⟨β1, hrel, hext⟩ := Rel_back (d := d) (hide := hide) h (by simp [St.callCx]) hvx hok hA hd (fun r hr => hr.1) (fun t b pl hht ho hp hO => hO.2 t b pl hht ho hp rfl) harg
      rw [hdst]
      exact hK _ _ β1 hrel (hA.same.mono fun r hr => hr.1) hext (by
        have := hA.next
        cases d <;> simpa [St.setd, St.pop, HP.pop, HP.push] using this)
    · simp [if_neg hpar] at hs

theorem step_sound {n : Nat} {oper : Oper} {o : MOp} {ops : Array Oper} {K : Act → World → Prop} {Q : Exit → Act → World → Prop} (hT : TblOk P T φ draw) (ih : ∀ m, m < n → CallSim P T φ draw m) (h : Rel φ β O nt cx s a w) (hs : Step T n cx o s s1) (hm : matchOp P φ nt ops oper o = true)
    (hK : ∀ a' w' β', Rel φ β' O nt cx s1 a' w' → SameBut w w' O → Ext cx.lvl s.hp.next β β' → s.hp.next ≤ s1.hp.next → K a' w') :
    if Region.wanted oper (yielded ops a.tmps) then oper.wp P a w K Q else K (a.put oper.dst undef) w := by
  unfold matchOp at hm
  simp only [Bool.and_eq_true, beq_iff_eq] at hm
  obtain ⟨⟨⟨hdst, hnt⟩, hg⟩, hm⟩ := hm
  have hd : ∀ t, o.d = some t → t < nt := by
    intro t ht
    rw [ht] at hnt
    simpa using hnt
  unfold Step at hs
  cases hw : s.wanted o.g with
  | none => simp [hw] at hs
  | some b =>
    rw [wanted_ok h.slots hg hw]
    cases b with
    | false =>
      simp only [hw] at hs
      simp only [Bool.false_eq_true, if_false]
      subst hs
      rw [hdst]
      exact hK _ _ β (Rel_setd h hd VR_undef) .refl .refl (by cases o.d <;> exact Nat.le_refl _)
    | true =>
      simp only [hw] at hs
      simp only [if_true]
      obtain ⟨od, ok, og⟩ := o
      simp only at hs hdst hm hd
      have hops := opds_of_slots h.slots
      by_cases hcall : ok.isCall = true
      · rw [if_pos hcall] at hm
        cases ok <;> simp [MK.isCall] at hcall
        · rename_i prot hide f args
          unfold matchCall at hm
          split at hm
          · rename_i F rargs tys prot' hide' f' args' hop heq
            cases heq
            simp only [Bool.and_eq_true, beq_iff_eq] at hm
            simp only [opCmd] at hs
            refine call_step (f := f) (caps := []) (rcaps := []) hT ih h hdst hd hm.1 (.inr fun g hg => ?_) (opds_list hops hm.2) All2.nil hs hK
            have hcf := run_callFunc (w := w) (args := (rargs.toList.map a.eval).toArray) (hT f g F hg hm.1)
            have e1 : rargs.map a.eval = (rargs.toList.map a.eval).toArray := by apply Array.toList_inj.1; rw [Array.toList_map]
            simp only [execOp, hop, resolve, Sem.run_bind, Deferred.ofValue, Act.eval, Sem.run_pure, Result.andThen_ok, invoke, List.append_nil]
            rw [← hcf, e1]
            simp
          · rename_i heq; cases heq
          · simp at hm
        · rename_i prot hide x args
          unfold matchCall at hm
          split at hm
          · rename_i heq; cases heq
          · rename_i t rargs tys prot' hide' x' args' hop heq
            cases heq
            simp only [Bool.and_eq_true] at hm
            simp only [opCmd] at hs
            have hx := hops _ _ hm.1
            cases hv : s.opd x <;> simp only [hv] at hs
            rename_i f cap
            rw [hv] at hx
            obtain ⟨F, caps, hF, hcaps, hxe⟩ : ∃ F caps, φ f = some F ∧ (cap.rel φ β).2 caps ∧ a.eval (.tmp t) = .func (.func F) #[] caps.toArray := by
              simpa [VR, VR1, AV.isAgg, LR, AV.rel] using hx
            refine call_step (f := f) (caps := capList cap) (rcaps := caps) hT ih h hdst hd hF (.inr fun g hg => ?_) (opds_list hops hm.2) (cap_list hcaps) hs hK
            have hcf := run_callFunc (w := w) (args := (rargs.toList.map a.eval ++ caps).toArray) (hT f g F hg hF)
            have e1 : rargs.map a.eval = (rargs.toList.map a.eval).toArray := by apply Array.toList_inj.1; rw [Array.toList_map]
            simp only [execOp, hop, resolve, Sem.run_bind, hxe, Deferred.ofValue, Sem.run_pure, Result.andThen_ok, invoke]
            rw [← hcf, e1]
            simp
          · simp at hm
      · rw [if_neg hcall] at hm
        have hev : ∃ v s2, evOp cx od ok s = some (v, s2) ∧ s1 = s2.setd od v := by
          cases ok <;> simp [MK.isCall] at hcall
          all_goals
            simp only [opCmd] at hs
            split at hs
            · rename_i hc
              split at hc
              · rename_i v s2 he
                injection hc with hc1 hc2
                subst hc2
                exact ⟨v, s2, he, hs⟩
              · simp at hc
            · rename_i hc; split at hc <;> simp at hc
            · exact hs.elim
        obtain ⟨v, s2, he, rfl⟩ := hev
        unfold evOp at he
        cases hk : evK s.opd (s.look cx) ok with
        | none => simp [hk] at he
        | some e =>
          simp only [hk] at he
          obtain ⟨nx, x, w', hrun, hval, heff⟩ := op_sound h.mem hops hm hk (eff_lets he)
          obtain ⟨β', hrel, hsame, hext, hnext⟩ := eff_rel h heff he hd
          have hnext' : s.hp.next ≤ (s2.setd od v).hp.next := by cases od <;> exact hnext
          unfold Oper.wp
          rw [hrun]
          cases nx <;> simp [Next.val] at hval
          · subst hval
            simp only [Oper.upon]
            rw [hdst]
            exact hK _ _ β' hrel hsame hext hnext'
          · subst hval
            simp only [Oper.upon]
            rw [hdst]
            exact hK _ _ β' hrel hsame hext hnext'
end
end Go.Mini
