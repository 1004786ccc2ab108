/- A part of the proof: Snd15. -/
import Derived.Test.YtpkndgkaecamlabSnd14
namespace Go.Mini
open Go.RowKit
set_option linter.unusedSimpArgs false
set_option linter.unusedVariables false

section
variable {φ : Nat → Option FuncId} {P : Program} {T : Nat → Option MFun} {draw : Array Oper → List MOp → Bool}

/-- The small machine, step by step, in the great one. -/
def Sim (P : Program) (T : Nat → Option MFun) (φ : Nat → Option FuncId) (draw : Array Oper → List MOp → Bool) (n : Nat) : Prop :=
  ∀ (cx : Cx) (k : List Item) (s s' : St) (β : Beta) (O : Nat → Prop) (nt : Nat) (b : Frame) (a : Act) (kR : List Go.Item) (cs : List Frame) (w : World),
    run T n cx k s = some s' → TodoOk P φ nt draw k kR → Rel φ β O nt cx s a w →
    ∃ β' a' w' todo, Steps P (lone (b.at a kR) cs w) (lone { b.at a' todo with mode := .returning } cs w') ∧ Left φ O nt cx β s.hp.next w s' β' a' w'

theorem Left.from {O : Nat → Prop} {nt : Nat} {cx : Cx} {β : Beta} {n0 : Nat} {w : World} {s1 s2 : St} {β' β'' : Beta} {a' a'' : Act} {w' w'' : World} (h : Left φ O nt cx β n0 w s1 β' a' w') (k : Left φ O nt cx β' s1.hp.next w' s2 β'' a'' w'') :
    Left φ O nt cx β n0 w s2 β'' a'' w'' := h.step k.rel k.same k.ext k.next

theorem Left.start {O : Nat → Prop} {nt : Nat} {cx : Cx} {β : Beta} {w : World} {s : St} {a : Act} (h : Rel φ β O nt cx s a w) : Left φ O nt cx β s.hp.next w s β a w := ⟨h, .refl, .refl, Nat.le_refl _⟩

theorem sim (hT : TblOk P T φ draw) (hD : DrawSound P T φ draw) (n : Nat) (ih : ∀ m, m < n → CallSim P T φ draw m) : ∀ m, m ≤ n → Sim P T φ draw m := by
  intro m
  induction m using Nat.strongRecOn with
  | _ m ihm =>
    intro hmn cx k s s' β O nt b a kR cs w hrun hk hR
    cases m with
    | zero => simp [run] at hrun
    | succ m =>
      have go : ∀ {k1 : List Item} {s1 : St} {kR1 : List Go.Item} {a1 : Act} {w1 : World} {β1 : Beta} {m' : Nat}, m' ≤ m → run T m' cx k1 s1 = some s' → TodoOk P φ nt draw k1 kR1 → Left φ O nt cx β s.hp.next w s1 β1 a1 w1 → Steps P (lone (b.at a kR) cs w) (lone (b.at a1 kR1) cs w1) →
          ∃ β' a' w' todo, Steps P (lone (b.at a kR) cs w) (lone { b.at a' todo with mode := .returning } cs w') ∧ Left φ O nt cx β s.hp.next w s' β' a' w' := by
        intro k1 s1 kR1 a1 w1 β1 m' hm' hr hk1 hL hst
        obtain ⟨β', a', w', todo, h1, h2⟩ := ihm m' (by omega) (by omega) cx k1 s1 s' β1 O nt b a1 kR1 cs w1 hr hk1 hL.rel
        exact ⟨β', a', w', todo, hst.trans h1, hL.from h2⟩
      rw [run] at hrun
      cases k with
      | nil =>
        simp only [next, Option.some.injEq] at hrun
        subst hrun
        cases kR with
        | cons => simp [TodoOk] at hk
        | nil => exact ⟨β, a, w, [], .one step_end, Left.start hR⟩
      | cons it k =>
        cases it with
        | ops l kill => cases kR <;> simp [TodoOk] at hk
        | inBlock i =>
          cases kR with
          | nil => simp [TodoOk] at hk
          | cons x kR =>
            cases x <;> simp [TodoOk] at hk
            simp only [next] at hrun
            exact go (Nat.le_refl _) hrun hk.2 (Left.start hR) (.one step_inBlock)
        | inLoop keep ko c =>
          cases kR with
          | nil => simp [TodoOk] at hk
          | cons x kR =>
            cases x <;> simp [TodoOk] at hk
            simp only [next] at hrun
            exact go (Nat.le_refl _) hrun (k1 := .code c :: .inLoop keep ko c :: k) (kR1 := .code _ :: .inLoop _ :: kR) ⟨hk.1, hk.1, hk.2⟩ (s1 := s.keep keep ko) ⟨Rel_keep hR, .refl, .refl, Nat.le_refl _⟩ (.one step_inLoop)
        | code c =>
          cases kR with
          | nil => simp [TodoOk] at hk
          | cons x kR =>
            cases x <;> simp [TodoOk] at hk
            rename_i C
            obtain ⟨hc, hk⟩ := hk
            cases C <;> cases c <;> simp only [matchC, Bool.and_eq_true, beq_iff_eq] at hc <;> try (simp at hc; done)
            · -- skip
              simp only [next] at hrun
              exact go (Nat.le_refl _) hrun hk (Left.start hR) (.one step_skip)
            · -- a region
              rename_i id ops d e l kill
              obtain ⟨⟨rfl, hmo⟩, hdr⟩ := hc
              simp only [next] at hrun
              split at hrun
              · rename_i hcmd; split at hcmd <;> simp at hcmd
              · simp at hrun
              · rename_i k1 s1 hcmd
                split at hcmd
                · simp at hcmd
                · rename_i hhead
                  injection hcmd with h1 h2
                  subst h1 h2
                  obtain ⟨tr, h0, hst, m', hm', hr'⟩ := trace hrun
                  have hwp : (Code.region id ops d).wp P (RegPost φ O nt cx β (tr 0).hp.next w (tr l.length)) a w := by
                    cases d with
                    | false => exact region_text hT (fun j hj => ih j (by omega)) hmo hst (by rw [h0]; exact hR)
                    | true =>
                      refine hD m id ops l β O nt cx tr a w (fun j hj => ih j (by omega)) (by simpa using hdr) hmo hst (by rw [h0]; exact hR) (by rw [h0]; simpa using hhead)
                  obtain ⟨en, a1, w1, hq, harr⟩ := hwp b kR cs
                  cases en with
                  | normal =>
                    obtain ⟨β1, hL⟩ := hq
                    rw [h0] at hL
                    exact go (by omega) hr' hk (s1 := (tr l.length).kill kill) ⟨Rel_kill hL.rel, hL.same, hL.ext, hL.next⟩ harr
                  | _ => exact hq.elim
              · rename_i hcmd; split at hcmd <;> simp at hcmd
            · -- seq
              rename_i A B c d
              simp only [next] at hrun
              exact go (Nat.le_refl _) hrun (k1 := .code c :: .code d :: k) (kR1 := .code A :: .code B :: kR) ⟨hc.1, hc.2, hk⟩ (Left.start hR) (.one step_seq)
            · -- cond
              rename_i x A B y c d
              obtain ⟨⟨hxy, hA⟩, hB⟩ := hc
              have hv := opds_of_slots hR.slots x y hxy
              simp only [next] at hrun
              cases hy : s.opd y <;> simp only [hy] at hrun <;> try (simp at hrun; done)
              rename_i t
              rw [hy] at hv
              refine go (Nat.le_refl _) hrun (k1 := .code (if t then c else d) :: k) (kR1 := .code (if t then A else B) :: kR) ⟨?_, hk⟩ (Left.start hR) (.one (step_cond (LR_bool hv)))
              cases t
              · exact hB
              · exact hA
            · -- block
              rename_i i A j c
              obtain ⟨rfl, hA⟩ := hc
              simp only [next] at hrun
              exact go (Nat.le_refl _) hrun (k1 := .code c :: .inBlock i :: k) (kR1 := .code A :: .inBlock i :: kR) ⟨hA, rfl, hk⟩ (Left.start hR) (.one step_block)
            · -- loop
              rename_i A keep ko c
              simp only [next] at hrun
              exact go (Nat.le_refl _) hrun (k1 := .code c :: .inLoop keep ko c :: k) (kR1 := .code A :: .inLoop A :: kR) ⟨hc, hc, hk⟩ (s1 := s.keep keep ko) ⟨Rel_keep hR, .refl, .refl, Nat.le_refl _⟩ (.one step_loop)
            · -- exit
              rename_i i j
              subst hc
              simp only [next] at hrun
              cases he : exitTo i k with
              | none => simp [he] at hrun
              | some k' =>
                simp only [he] at hrun
                obtain ⟨kR', h1, h2⟩ := exitTo_ok hk he
                exact go (Nat.le_refl _) hrun h2 (Left.start hR) (.one (step_exit h1))
            · -- ret
              simp only [next, Option.some.injEq] at hrun
              subst hrun
              exact ⟨β, a, w, _, .one step_ret, Left.start hR⟩

theorem SR_enter {β : Beta} : ∀ {args : List AV} {rargs : List Value} {n : Nat} {tmps : Array Value}, All2 (VR φ β) args rargs → (∀ i x, rargs[i]? = some x → tmps.getD (n + i) undef = x) → ∀ t, VR φ β (Slots.get (enterSlots n args) t) (tmps.getD t undef)
  | [], _, n, tmps, _, _ => fun t => by simp only [enterSlots, Slots.get]; exact VR_bot
  | v :: args, [], n, tmps, h, _ => by have := h.1; simp at this
  | v :: args, x :: rargs, n, tmps, h, ht => fun t => by
    simp only [enterSlots, Slots.get]
    split
    · rename_i e
      subst e
      have := ht 0 x rfl
      simp only [Nat.add_zero] at this
      rw [this]
      exact h.head
    · exact SR_enter h.tail (fun i y hy => by
        have := ht (i + 1) y (by simpa using hy)
        rw [← this]; congr 1; omega) t

theorem callSim (hT : TblOk P T φ draw) (hD : DrawSound P T φ draw) : ∀ n, CallSim P T φ draw n := by
  intro n
  induction n using Nat.strongRecOn with
  | _ n ih =>
    intro cx fn F args h s2 v β O rargs w hmf hrun hv hlen ha hm hdom htop hfresh
    obtain ⟨f, c, hf, hb, hmc, hmr, hnt, _⟩ := fn_facts hmf
    have hS := sim hT hD n ih n (Nat.le_refl _)
    have hrl : rargs.length = fn.params + fn.nfree := by rw [← ha.1, hlen]
    let a0 : Act := { tmps := rargs.toArray ++ Array.replicate (f.ntmps - rargs.toArray.size) undef, defers := [] }
    have hR : Rel φ β O f.ntmps cx (St.enter args h) a0 w := by
      refine ⟨SR_enter ha fun i x hx => ?_, ?_, fun i pl hb => ?_, htop, hfresh, rfl, ?_⟩
      · have hi : i < rargs.length := by
          rcases Nat.lt_or_ge i rargs.length with h | h
          · exact h
          · rw [List.getElem?_eq_none h] at hx; simp at hx
        simp only [Nat.zero_add, Array.getD_eq_getD_getElem?, a0]
        rw [Array.getElem?_append_left (by simpa using hi)]
        simp [hx]
      · refine HR_mono hm fun i b hb => ?_
        cases i with
        | stk l t =>
          by_cases hl : l = cx.lvl
          · simp [St.look, St.enter, Id.own, hl, Own.get] at hb
          · simpa [St.look, St.enter, Id.own, hl] using hb
        | obj k => simpa [St.look, St.enter, Id.own] using hb
        | arg k => simpa [St.look, St.enter, Id.own] using hb
      · have := hdom i pl hb
        cases i <;> simp_all [Id.under, St.enter]
        omega
      · simp [a0]; omega
    intro cs
    let b : Frame := { (default : Frame) with fn := F, kind := .normal }
    obtain ⟨β', a', w', todo, hst, hL⟩ := hS cx [.code fn.body] (St.enter args h) s2 β O f.ntmps b a0 [.code c] cs w hrun ⟨hmc, trivial⟩ hR
    obtain ⟨x, hx, hvx, hok⟩ := results_sound hL.rel hmr hv
    have henter : Frame.enter P F rargs.toArray .normal = b.at a0 [.code c] := by
      simp [Frame.enter, Frame.at, hf, hb, b, a0]
    refine ⟨.returned x, w', { b.at a' todo with mode := .returning }, ⟨x, β', rfl, hvx, hok, ⟨hL.rel.mem, hL.same, hL.ext, hL.next, hL.rel.dom, hL.rel.top⟩⟩, ?_, rfl, ?_⟩
    · rw [henter]; exact hst
    · exact ⟨rfl, hL.rel.defers, rfl, f, hf, hx⟩
end
end Go.Mini
