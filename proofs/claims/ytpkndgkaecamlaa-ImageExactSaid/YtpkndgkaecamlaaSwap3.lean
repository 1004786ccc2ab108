/- A part of the proof: Swap3. -/
import Derived.Test.YtpkndgkaecamlaaSwap2
namespace Go.Mini
set_option linter.unusedSimpArgs false
set_option linter.unusedVariables false

def AV.plain : AV → Bool
  | .ptr .. => false
  | .sl .. => false
  | .func .. => false
  | _ => true

def Opd.plain : Opd → Bool
  | .c v => v.plain
  | _ => true

def Opd.slot : Opd → List Nat
  | .s t => [t]
  | _ => []

/-- The slots that an operation reads. -/
def MOp.uses (o : MOp) : List Nat := o.k.ops.flatMap Opd.slot ++ (match o.g with | some (t, _) => [t] | none => [])

theorem plain_leads {v : AV} {i : Id} (h : v.plain = true) : v.leads i = false := by
  cases v <;> simp [AV.plain] at h <;> simp [AV.leads, AV.names, AV.isAgg]
theorem plain_into {v : AV} {i : Id} (h : v.plain = true) : v.into i = false := by
  cases v <;> simp [AV.plain] at h <;> simp [AV.into]

/-- A local block that is not there yet. -/
def Fresh (cx : Cx) (u : Nat) (s : St) : Prop := s.own.get u = none ∧ ∀ p ∈ s.sl, (p.2 : AV).leads (.stk cx.lvl u) = false

/-- What a call asks for. -/
def callOf (T : Nat → Option MFun) (g : Opd → AV) : MK → Option (Bool × List Nat × MFun × List AV)
  | .call prot hide f args => match T f with
    | some fn => if fn.params = (args.map g).length ∧ fn.nfree = ([] : List AV).length then some (prot, hide, fn, args.map g ++ []) else none
    | none => none
  | .callv prot hide x args => match g x with
    | .func f cap => match T f with
      | some fn => if fn.params = (args.map g).length ∧ fn.nfree = (capList cap).length then some (prot, hide, fn, args.map g ++ capList cap) else none
      | none => none
    | _ => none
  | _ => none

section
variable {cx cx' : Cx} {s s' s1 s2 : St} {T : Nat → Option MFun} {n : Nat} {o : MOp}

theorem opCmd_call {d : Option Nat} {k : MK} {todo : List Item} (h : k.isCall = true) : opCmd T cx d k todo s = match callOf T s.opd k with
    | some (prot, hide, fn, l) => .call (s.callCx cx prot) hide fn (St.enter l (s.hp.push cx.lvl (s.own.veil hide))) d todo s
    | none => .fail := by
  cases k <;> simp [MK.isCall] at h
  · rename_i prot hide f args
    simp only [opCmd, callOf, enterCmd]
    cases T f with
    | none => rfl
    | some fn => simp only; split <;> rfl
  · rename_i prot hide x args
    simp only [opCmd, callOf, enterCmd]
    cases s.opd x <;> try rfl
    rename_i f cap
    simp only
    cases T f with
    | none => rfl
    | some fn => simp only; split <;> rfl

theorem opCmd_ev {d : Option Nat} {k : MK} {todo : List Item} (h : k.isCall = false) : opCmd T cx d k todo s = match evOp cx d k s with
    | some (v, s') => .go todo (s'.setd d v)
    | none => .fail := by
  cases k <;> simp [MK.isCall] at h <;> rfl

/-- What a step is. -/
inductive StepIs (T : Nat → Option MFun) (n : Nat) (cx : Cx) (o : MOp) (s : St) : St → Prop
  | skip : s.wanted o.g = some false → StepIs T n cx o s (s.setd o.d .undef)
  | op {e : Eff} {v : AV} {s' : St} : s.wanted o.g = some true → o.k.isCall = false → evK s.opd (s.look cx) o.k = some e → applyEff cx o.d o.k.esc s e = some (v, s') → StepIs T n cx o s (s'.setd o.d v)
  | call {prot : Bool} {hide : List Nat} {fn : MFun} {l : List AV} {m : Nat} {s2 s1 : St} : s.wanted o.g = some true → o.k.isCall = true → callOf T s.opd o.k = some (prot, hide, fn, l) → m < n →
      run T m (s.callCx cx prot) [.code fn.body] (St.enter l (s.hp.push cx.lvl (s.own.veil hide))) = some s2 → back cx (s.callCx cx prot) hide fn o.d s s2 = some s1 → StepIs T n cx o s s1

theorem Step_iff : Step T n cx o s s1 ↔ StepIs T n cx o s s1 := by
  constructor
  · intro h
    unfold Step at h
    cases hw : s.wanted o.g with
    | none => simp [hw] at h
    | some b =>
      cases b with
      | false => simp only [hw] at h; subst h; exact .skip hw
      | true =>
        simp only [hw] at h
        cases hc : o.k.isCall with
        | true =>
          rw [opCmd_call hc] at h
          cases hco : callOf T s.opd o.k with
          | none => simp [hco] at h
          | some q =>
            obtain ⟨prot, hide, fn, l⟩ := q
            simp only [hco] at h
            obtain ⟨m, s2, hm, hr, hb⟩ := h
            exact .call hw hc hco hm hr hb
        | false =>
          rw [opCmd_ev hc] at h
          unfold evOp at h
          cases he : evK s.opd (s.look cx) o.k with
          | none => simp [he] at h
          | some e =>
            simp only [he] at h
            cases ha : applyEff cx o.d o.k.esc s e with
            | none => simp [ha] at h
            | some q =>
              obtain ⟨v, s'⟩ := q
              simp only [ha] at h
              subst h
              exact .op hw hc he ha
  · intro h
    cases h with
    | skip hw => simp only [Step, hw]
    | op hw hc he ha => simp only [Step, hw, opCmd_ev hc, evOp, he, ha]
    | call hw hc hco hm hr hb => simp only [Step, hw, opCmd_call hc, hco]; exact ⟨_, _, hm, hr, hb⟩

theorem opd_uses (h : ∀ t ∈ o.uses, Slots.get s.sl t = Slots.get s'.sl t) : ∀ x ∈ o.k.ops, s.opd x = s'.opd x := by
  intro x hx
  cases x with
  | s t => exact h t (by simp only [MOp.uses, List.mem_append, List.mem_flatMap]; exact .inl ⟨_, hx, by simp [Opd.slot]⟩)
  | _ => rfl

theorem wanted_uses (h : ∀ t ∈ o.uses, Slots.get s.sl t = Slots.get s'.sl t) : s.wanted o.g = s'.wanted o.g := by
  cases hg : o.g with
  | none => rfl
  | some q =>
    obtain ⟨t, b⟩ := q
    have := h t (by simp [MOp.uses, hg])
    simp only [St.wanted, this]

theorem callOf_congr {g g' : Opd → AV} {k : MK} (h : ∀ x ∈ k.ops, g x = g' x) : callOf T g k = callOf T g' k := by
  have e : ∀ l : List Opd, (∀ x ∈ l, g x = g' x) → l.map g = l.map g' := fun l hl => List.map_congr_left hl
  cases k <;> try rfl
  · rename_i prot hide f args
    simp only [callOf, e args h]
  · rename_i prot hide x args
    simp only [callOf, e args fun y hy => h y (List.mem_cons_of_mem _ hy), h x (List.mem_cons_self ..)]

/-- A step where the state is another one, in a part that the step does not turn. -/
theorem Step_mod {f : St → St} (h0 : ∀ t ∈ o.uses, Slots.get s.sl t = Slots.get (f s).sl t)
    (h2 : ∀ x ∈ o.k.ops, ∀ i, (s.opd x).into i = true → o.k.agree (s.look cx i) ((f s).look cx i))
    (h3 : ∀ e, evK s.opd (s.look cx) o.k = some e → applyEff cx o.d o.k.esc (f s) e = (applyEff cx o.d o.k.esc s e).map fun p => (p.1, f p.2))
    (h4 : ∀ s v, (f s).setd o.d v = f (s.setd o.d v))
    (h5 : ∀ prot hide fn l, callOf T s.opd o.k = some (prot, hide, fn, l) → ((f s).hp.push cx.lvl ((f s).own.veil hide) = s.hp.push cx.lvl (s.own.veil hide)) ∧ (f s).hp.next = s.hp.next ∧ ∀ h', (f s).pop cx.lvl hide h' = f (s.pop cx.lvl hide h')) :
    Step T n cx o (f s) s2 ↔ ∃ s1, Step T n cx o s s1 ∧ s2 = f s1 := by
  have ho := opd_uses h0
  have hw := wanted_uses h0
  have hev := evK_congr ho h2
  have hcx : ∀ prot hide fn l, callOf T s.opd o.k = some (prot, hide, fn, l) → (f s).callCx cx prot = s.callCx cx prot := by
    intro prot hide fn l hc
    simp only [St.callCx, (h5 prot hide fn l hc).2.1]
  have hback : ∀ prot hide fn l cx' t, callOf T s.opd o.k = some (prot, hide, fn, l) → back cx cx' hide fn o.d (f s) t = (back cx cx' hide fn o.d s t).map f := by
    intro prot hide fn l cx' t hc
    simp only [back, Option.map_map]
    congr 1
    funext v
    simp only [Function.comp, (h5 prot hide fn l hc).2.2, h4]
  constructor
  · intro h
    rw [Step_iff] at h
    cases h with
    | skip hw' => exact ⟨_, Step_iff.2 (.skip (hw.trans hw')), h4 _ _⟩
    | op hw' hc he ha =>
      rw [← hev] at he
      rw [h3 _ he] at ha
      simp only [Option.map_eq_some_iff] at ha
      obtain ⟨⟨v, s'⟩, ha, heq⟩ := ha
      simp at heq
      obtain ⟨rfl, rfl⟩ := heq
      exact ⟨_, Step_iff.2 (.op (hw.trans hw') hc he ha), h4 _ _⟩
    | call hw' hc hco hm hr hb =>
      rw [← callOf_congr ho] at hco
      rw [hcx _ _ _ _ hco, (h5 _ _ _ _ hco).1] at hr
      rw [hcx _ _ _ _ hco, hback _ _ _ _ _ _ hco] at hb
      simp only [Option.map_eq_some_iff] at hb
      obtain ⟨s1, hb, rfl⟩ := hb
      exact ⟨s1, Step_iff.2 (.call (hw.trans hw') hc hco hm hr hb), rfl⟩
  · rintro ⟨s1, h, rfl⟩
    rw [Step_iff] at h
    cases h with
    | skip hw' => rw [← h4]; exact Step_iff.2 (.skip (hw.symm.trans hw'))
    | op hw' hc he ha =>
      rw [← h4]
      exact Step_iff.2 (.op (hw.symm.trans hw') hc (hev ▸ he) (by rw [h3 _ he, ha]; rfl))
    | call hw' hc hco hm hr hb =>
      refine Step_iff.2 (.call (hw.symm.trans hw') hc (by rw [← callOf_congr ho]; exact hco) hm ?_ (s2 := ?_) ?_)
      · rename_i s2 ; exact s2
      · rw [hcx _ _ _ _ hco, (h5 _ _ _ _ hco).1]; exact hr
      · rw [hcx _ _ _ _ hco, hback _ _ _ _ _ _ hco, hb]; rfl
end
end Go.Mini
