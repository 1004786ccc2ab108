/- A part of the proof: the statement CacheDoes, over the model of its code. -/
import Derived.Test.YtpkndgkaecamlabCdS

namespace Go.Mini
set_option linter.unusedSimpArgs false
set_option linter.unusedVariables false
set_option maxHeartbeats 4000000
set_option maxRecDepth 100000


structure IntsV (h : HP) (v : AV) (l : List Int) : Prop where
  len : lenV false v = some (.int .i64 l.length)
  fg : ∀ a b, Go.Mini.fg v (.stk a b) = v
  ld : ∀ a b, v.leads (.stk a b) = false
  ix : ∀ k, k < l.length → ∃ n, v = .sl (.arg n) 0 l.length ∧ h.look (.arg n) = some ⟨.arr l.length tI, encL l⟩
theorem IntsV.to {h h' : HP} {v : AV} {l : List Int} (a : IntsV h v l) (e : h'.arg = h.arg) : IntsV h' v l :=
  ⟨a.len, a.fg, a.ld, fun k hk => by
    obtain ⟨n, h1, h2⟩ := a.ix k hk
    exact ⟨n, h1, by simp only [HP.look, e] at h2 ⊢; exact h2⟩⟩
def cbD (h : HP) : HP := ((h.mk1 Img.blank Img.blank).mk1 Img.one Img.one).cs h.next Img.one Img.one
def wrote (b : Img) (l : List Int) (a : Img) : Nat → Img
  | 0 => a
  | k + 1 => (writeAs b (wrote b l a k) (num l k)).1
section
variable {cx : Cx} {h : HP} {v : AV} {l : List Int} {a b : Img}
theorem rSync_E {n : Nat} {B : Bd} (hl : ∀ n, cx.prot.lets (.obj n) = true) (hB : h.look (.obj n) = some ⟨tBed, B.enc⟩) : Ok tblE cx Fn.eiderdownref_Bed_Sync (St.enter [.ptr (.obj n) [] tBed] h) fun v h' => v = .int .i64 (syncK B.now B.disk) ∧ h' = h.ob n tBed (Bd.enc { B with disk := syncTo B.now B.disk }) := by
  have := rSync_ok (cx := cx) (h := h) (n := n) (B := B) hl
  rw [ob_self hB] at this
  refine this.mono fun v h' e => ?_
  obtain ⟨k, h8, rfl, rfl, hk, hn⟩ := e
  obtain rfl := syncK_eq h8 hk hn
  exact ⟨rfl, rfl⟩
theorem CacheDoes_ok {d : Int} (hl : ∀ n, cx.prot.lets (.obj n) = true) (hv : IntsV h v l) : Ok tblE cx Fn.eiderdownlaw_CacheDoes (St.enter [a.enc, b.enc, v, .int .i64 d] h) fun v h' => v = .bool true := by
  have hvlen := hv.len
  have hvfg := hv.fg
  have hvld := hv.ld
  rw [Ok_eq]
  simp (config := { maxSteps := 1000000 }) (disch := omega) only [go_sem, hvlen, hvfg, hvld]
  refine W_callh (v := .bool true) (cbD h) rfl ⟨rfl, rfl⟩ rfl (by simp only [go_sem]; exact Ok.mono (upE (cacheBegun_ok (hl _))) (fun v h' e => ⟨e.1, e.2⟩)) ?_
  have hvH : IntsV (cbD h) v l := hv.to rfl
  generalize cbD h = H at hvH ⊢
  simp (config := { maxSteps := 1000000 }) (disch := omega) only [go_sem, hvlen, hvfg, hvld]
  refine W_callp rfl ⟨rfl, rfl⟩ (by simp only [go_sem]; exact upE (up (Great_ok))) ?_
  simp (config := { maxSteps := 1000000 }) (disch := omega) only [go_sem, hvlen, hvfg, hvld]
  cases hg' : great b with
  | true => simp (config := { maxSteps := 1000000 }) (disch := omega) only [go_sem, hvlen, hvfg, hvld]
  | false =>
  have hs' := great_small hg'
  simp (config := { maxSteps := 1000000 }) (disch := omega) only [go_sem, hvlen, hvfg, hvld]
  refine W_callp rfl ⟨rfl, rfl⟩ (by simp only [go_sem]; exact upE (up (Great_ok))) ?_
  simp (config := { maxSteps := 1000000 }) (disch := omega) only [go_sem, hvlen, hvfg, hvld]
  cases hg : great a with
  | true => simp (config := { maxSteps := 1000000 }) (disch := omega) only [go_sem, hvlen, hvfg, hvld]
  | false =>
  have hs := great_small hg
  simp (config := { maxSteps := 1000000 }) (disch := omega) only [go_sem, hvlen, hvfg, hvld]
  by_cases h200 : 200 < l.length
  · simp (config := { maxSteps := 1000000 }) (disch := omega) only [go_sem, h200, hvlen, hvfg, hvld]
  simp (config := { maxSteps := 1000000 }) (disch := omega) only [go_sem, h200, hvlen, hvfg, hvld]
  by_cases hc : check a = 0
  · refine W_callh (v := .ptr (.obj H.next) [] tCache) (H.mk1 a a) rfl ⟨rfl, rfl⟩ rfl (by simp only [go_sem]; exact upE (COf_ok hs hc)) ?_
    simp (config := { maxSteps := 1000000 }) (disch := omega) only [go_sem, hvlen, hvfg, hvld]
    refine W_callp rfl ⟨rfl, rfl⟩ (by simp only [go_sem]; exact upE (up (ImageFault_ok (m := a) hs (below_stk _ _) (by simp only [go_sem, HP.push_rd_own])))) ?_
    simp (config := { maxSteps := 1000000 }) (disch := omega) only [go_sem, hc, hvlen, hvfg, hvld]
    have hC0 : (H.nw tCache (encC a a)).look (.obj H.next) = some ⟨tCache, encC a a⟩ := look_nw
    refine W_callp rfl ⟨rfl, rfl⟩ (by simp only [go_sem]; exact eDisk (a := a) (b := a) (by simp only [go_sem, hC0])) ?_
    simp (config := { maxSteps := 1000000 }) (disch := omega) only [go_sem, hC0, hvlen, hvfg, hvld, stV_ob (hl _)]
    have hN : ∃ h2 c e, h2 = (H.nw tCache (encC b a)).nw tBed (Bd.enc ⟨b, a, 0, 0, 0, 0, 0⟩) ∧ c = H.next ∧ e = H.next + 1 ∧ h2.look (.obj c) = some ⟨tCache, encC b a⟩ ∧ h2.look (.obj e) = some ⟨tBed, Bd.enc ⟨b, a, 0, 0, 0, 0, 0⟩⟩ ∧ h2.arg = H.arg ∧ c ≠ e :=
      ⟨_, _, _, rfl, rfl, rfl, look_nn0, look_nn1, rfl, by omega⟩
    obtain ⟨h2, c, e, eh, ec, ee, hC1, hB1, hA1, hce⟩ := hN
    rw [← eh, ← ee, ← ec]
    clear eh ee ec hC0
    refine W_forE (α := HP) l.length (fun k g => ⟨[(2, v), (3, .int .i64 d), (5, .ptr (.stk cx.lvl 5) [] tImage), (9, .ptr (.obj c) [] tCache), (10, .ptr (.obj e) [] tBed), (11, .int .i64 k)], [(5, ⟨tImage, b.enc⟩)], g⟩)
      (fun k g => g.look (.obj c) = some ⟨tCache, encC b (wrote b l a k)⟩ ∧ g.look (.obj e) = some ⟨tBed, Bd.enc ⟨b, wrote b l a k, 0, 0, 0, 0, 0⟩⟩ ∧ g.arg = H.arg) h2 (by simp only [go_sem] <;> rfl) ⟨hC1, hB1, hA1⟩ fun k g hk hg ih => ?_
    obtain ⟨hC, hB, hA⟩ := hg
    by_cases hlt : k < l.length
    · obtain ⟨n, rfl, hn⟩ := (hvH.to hA).ix k hlt
      have hec : ¬e = c := fun h => hce h.symm
      generalize eD : wrote b l a k = D at hC hB
      have eD' : wrote b l a (k + 1) = (writeAs b D (num l k)).1 := by rw [← eD]; rfl
      simp (config := { maxSteps := 1000000 }) (disch := omega) only [go_sem, hlt, hn, encL_num l hlt]
      refine W_callh (v := .bool (writeAs b D (num l k)).2) (g.ob c tCache (encC b (writeAs b D (num l k)).1)) rfl ⟨rfl, rfl⟩ rfl (by simp only [go_sem]; exact eWrite (by exact hl) (by simp only [go_sem, hC])) ?_
      have hn1 : (g.ob c tCache (encC b (writeAs b D (num l k)).1)).look (.arg n) = some ⟨.arr l.length tI, encL l⟩ := hn
      simp (config := { maxSteps := 1000000 }) (disch := omega) only [go_sem, hlt, hn1, encL_num l hlt]
      refine W_callh (v := .bool (writeAs b D (num l k)).2) ((g.ob c tCache (encC b (writeAs b D (num l k)).1)).ob e tBed (Bd.enc ⟨b, (writeAs b D (num l k)).1, 0, 0, 0, 0, 0⟩)) rfl ⟨rfl, rfl⟩ rfl (by simp only [go_sem]; exact rWrite_ok (B := ⟨b, D, 0, 0, 0, 0, 0⟩) (by exact hl) (by simp only [go_sem, look_ob_ne hec, hB])) ?_
      have hC2 : ((g.ob c tCache (encC b (writeAs b D (num l k)).1)).ob e tBed (Bd.enc ⟨b, (writeAs b D (num l k)).1, 0, 0, 0, 0, 0⟩)).look (.obj c) = some ⟨tCache, encC b (writeAs b D (num l k)).1⟩ := by rw [look_ob_ne hce, look_ob]
      have hB2 : ((g.ob c tCache (encC b (writeAs b D (num l k)).1)).ob e tBed (Bd.enc ⟨b, (writeAs b D (num l k)).1, 0, 0, 0, 0, 0⟩)).look (.obj e) = some ⟨tBed, Bd.enc ⟨b, (writeAs b D (num l k)).1, 0, 0, 0, 0, 0⟩⟩ := look_ob
      have hA2 : ((g.ob c tCache (encC b (writeAs b D (num l k)).1)).ob e tBed (Bd.enc ⟨b, (writeAs b D (num l k)).1, 0, 0, 0, 0, 0⟩)).arg = H.arg := hA
      generalize (g.ob c tCache (encC b (writeAs b D (num l k)).1)).ob e tBed (Bd.enc ⟨b, (writeAs b D (num l k)).1, 0, 0, 0, 0, 0⟩) = g2 at hC2 hB2 hA2 ⊢
      rw [← eD'] at hC2 hB2
      have hbb : ∀ w : Bool, decide (w = w) = true := fun w => by cases w <;> rfl
      simp (config := { maxSteps := 1000000 }) (disch := omega) only [go_sem, hbb]
      refine W_callp rfl ⟨rfl, rfl⟩ (by simp only [go_sem]; exact eDisk (a := b) (b := wrote b l a (k + 1)) (by simp only [go_sem, hC2])) ?_
      simp (config := { maxSteps := 1000000 }) (disch := omega) only [go_sem, hC2, hB2]
      refine ih _ g2 hlt ?_ ⟨hC2, hB2, hA2⟩
      simp only [go_sem]
    · obtain rfl : k = l.length := by omega
      generalize wrote b l a l.length = D at hC hB
      simp (config := { maxSteps := 1000000 }) (disch := omega) only [go_sem, hvlen, hvfg, hvld]
      have hdd : decide (decide (b = D) = decide (b = D)) = true := decide_eq_true rfl
      refine W_callp rfl ⟨rfl, rfl⟩ (by simp only [go_sem]; exact eInode (a := b) (b := D) (by simp only [go_sem, hC])) ?_
      simp (config := { maxSteps := 1000000 }) (disch := omega) only [go_sem]
      refine W_callp rfl ⟨rfl, rfl⟩ (by simp only [go_sem]; exact rFreeInode_ok (B := ⟨b, D, 0, 0, 0, 0, 0⟩) (by simp only [go_sem, hB])) ?_
      simp (config := { maxSteps := 1000000 }) (disch := omega) only [go_sem]
      refine W_callp rfl ⟨rfl, rfl⟩ (by simp only [go_sem]; exact eSlot (a := b) (b := D) (d := d) (by simp only [go_sem, hC])) ?_
      simp (config := { maxSteps := 1000000 }) (disch := omega) only [go_sem]
      refine W_callp rfl ⟨rfl, rfl⟩ (by simp only [go_sem]; exact rFreeSlot_ok (B := ⟨b, D, 0, 0, 0, 0, 0⟩) (d := d) (by simp only [go_sem, hB])) ?_
      simp (config := { maxSteps := 1000000 }) (disch := omega) only [go_sem]
      refine W_callp rfl ⟨rfl, rfl⟩ (by simp only [go_sem]; exact eData (a := b) (b := D) (by simp only [go_sem, hC])) ?_
      simp (config := { maxSteps := 1000000 }) (disch := omega) only [go_sem]
      refine W_callp rfl ⟨rfl, rfl⟩ (by simp only [go_sem]; exact rFreeData_ok (B := ⟨b, D, 0, 0, 0, 0, 0⟩) (by simp only [go_sem, hB])) ?_
      simp (config := { maxSteps := 1000000 }) (disch := omega) only [go_sem]
      refine W_callp rfl ⟨rfl, rfl⟩ (by simp only [go_sem]; exact eClean (a := b) (b := D) (by simp only [go_sem, hC])) ?_
      simp (config := { maxSteps := 1000000 }) (disch := omega) only [go_sem, hB, hdd]
      refine W_for 16 (fun k => ⟨[(5, .ptr (.stk cx.lvl 5) [] tImage), (9, .ptr (.obj c) [] tCache), (10, .ptr (.obj e) [] tBed), (12, .int .i64 ((k : Int) - 1))], [(5, ⟨tImage, b.enc⟩)], g⟩) (by simp only [go_sem] <;> rfl) fun k hk ih2 => ?_
      by_cases hlt2 : k < 16
      · have h14 : (k : Int) - 1 ≤ 14 := by omega
        have hnext : IntKind.i64.wrap ((k : Int) - 1 + 1) = ((k + 1 : Nat) : Int) - 1 := by rw [wrap64 (by omega) (by omega)]; omega
        have hww : ∀ w : Bool, decide (w = w) = true := fun w => by cases w <;> rfl
        simp (config := { maxSteps := 1000000 }) (disch := omega) only [go_sem, h14]
        refine W_callp rfl ⟨rfl, rfl⟩ (by simp only [go_sem]; exact upE (up (BlockOf_ok))) ?_
        obtain ⟨n, hn, ee⟩ | ⟨n, hn, ee⟩ | ⟨n, hn, ee⟩ | ee := blockOf_cases ((k : Int) - 1)
        · simp (config := { maxSteps := 1000000 }) (disch := omega) only [go_sem, ee]
          refine W_for 4 (fun j => ⟨[(5, .ptr (.stk cx.lvl 5) [] tImage), (9, .ptr (.obj c) [] tCache), (10, .ptr (.obj e) [] tBed), (12, .int .i64 ((k : Int) - 1)), (14, .int .i64 n), (15, .bool (anyN j fun i => !decide (b.ino (n + i) = D.ino (n + i)))), (16, .int .i64 j)], [(5, ⟨tImage, b.enc⟩)], g⟩) (by simp only [go_sem, anyN] <;> rfl) fun j hj ih3 => ?_
          by_cases hlt3 : j < 4
          · simp (config := { maxSteps := 1000000 }) (disch := omega) only [go_sem, hlt3]
            cases ha : anyN j fun i => !decide (b.ino (n + i) = D.ino (n + i)) with
            | true =>
              simp (config := { maxSteps := 1000000 }) (disch := omega) only [go_sem]
              refine ih3 _ hlt3 ?_
              simp only [go_sem, anyN_succ, ha, Bool.true_or]
            | false =>
              simp (config := { maxSteps := 1000000 }) (disch := omega) only [go_sem, hB, hlt3]
              refine ih3 _ hlt3 ?_
              simp only [go_sem, anyN_succ, ha, Bool.false_or]
          · obtain rfl : j = 4 := by omega
            simp (config := { maxSteps := 1000000 }) (disch := omega) only [go_sem]
            refine W_callp rfl ⟨rfl, rfl⟩ (by simp only [go_sem]; exact eDirty (a := b) (b := D) (by simp only [go_sem, hC])) ?_
            rw [dirty_i ee]
            simp (config := { maxSteps := 1000000 }) (disch := omega) only [go_sem, hww, hnext]
            refine ih2 _ hlt2 ?_
            simp only [go_sem]
        · simp (config := { maxSteps := 1000000 }) (disch := omega) only [go_sem, ee, hB, row_eq b D hn, Bool.not_not]
          refine W_callp rfl ⟨rfl, rfl⟩ (by simp only [go_sem]; exact eDirty (a := b) (b := D) (by simp only [go_sem, hC])) ?_
          rw [dirty_d ee]
          simp (config := { maxSteps := 1000000 }) (disch := omega) only [go_sem, hww, hnext]
          refine ih2 _ hlt2 ?_
          simp only [go_sem]
        · simp (config := { maxSteps := 1000000 }) (disch := omega) only [go_sem, ee, hB]
          refine W_callp rfl ⟨rfl, rfl⟩ (by simp only [go_sem]; exact eDirty (a := b) (b := D) (by simp only [go_sem, hC])) ?_
          rw [dirty_a ee]
          simp (config := { maxSteps := 1000000 }) (disch := omega) only [go_sem, hww, hnext]
          refine ih2 _ hlt2 ?_
          simp only [go_sem]
        · simp (config := { maxSteps := 1000000 }) (disch := omega) only [go_sem, ee]
          refine W_callp rfl ⟨rfl, rfl⟩ (by simp only [go_sem]; exact eDirty (a := b) (b := D) (by simp only [go_sem, hC])) ?_
          rw [dirty_n ee]
          simp (config := { maxSteps := 1000000 }) (disch := omega) only [go_sem, hww, hnext]
          refine ih2 _ hlt2 ?_
          simp only [go_sem]
      · obtain rfl : k = 16 := by omega
        have hec : ¬e = c := fun h => hce h.symm
        simp (config := { maxSteps := 1000000 }) (disch := omega) only [go_sem]
        refine W_callh (v := .int .i64 (syncK b D)) (g.ob c tCache (encC b (syncTo b D))) rfl ⟨rfl, rfl⟩ rfl (by simp only [go_sem]; exact eSync (by exact hl) (by simp only [go_sem, hC])) ?_
        simp (config := { maxSteps := 1000000 }) (disch := omega) only [go_sem]
        refine W_callh (v := .int .i64 (syncK b D)) ((g.ob c tCache (encC b (syncTo b D))).ob e tBed (Bd.enc ⟨b, syncTo b D, 0, 0, 0, 0, 0⟩)) rfl ⟨rfl, rfl⟩ rfl (by simp only [go_sem]; exact rSync_E (B := ⟨b, D, 0, 0, 0, 0, 0⟩) (by exact hl) (by simp only [go_sem, look_ob_ne hec, hB])) ?_
        have hC2 : ((g.ob c tCache (encC b (syncTo b D))).ob e tBed (Bd.enc ⟨b, syncTo b D, 0, 0, 0, 0, 0⟩)).look (.obj c) = some ⟨tCache, encC b (syncTo b D)⟩ := by rw [look_ob_ne hce, look_ob]
        have hB2 : ((g.ob c tCache (encC b (syncTo b D))).ob e tBed (Bd.enc ⟨b, syncTo b D, 0, 0, 0, 0, 0⟩)).look (.obj e) = some ⟨tBed, Bd.enc ⟨b, syncTo b D, 0, 0, 0, 0, 0⟩⟩ := look_ob
        generalize (g.ob c tCache (encC b (syncTo b D))).ob e tBed (Bd.enc ⟨b, syncTo b D, 0, 0, 0, 0, 0⟩) = g2 at hC2 hB2 ⊢
        simp (config := { maxSteps := 1000000 }) (disch := omega) only [go_sem]
        refine W_callp rfl ⟨rfl, rfl⟩ (by simp only [go_sem]; exact eDisk (a := b) (b := syncTo b D) (by simp only [go_sem, hC2])) ?_
        simp (config := { maxSteps := 1000000 }) (disch := omega) only [go_sem, hC2, hB2]
  · refine W_callp rfl ⟨rfl, rfl⟩ (by simp only [go_sem]; exact upE (COf_no hs hc)) ?_
    simp (config := { maxSteps := 1000000 }) (disch := omega) only [go_sem, hvlen, hvfg, hvld]
    refine W_callp rfl ⟨rfl, rfl⟩ (by simp only [go_sem]; exact upE (up (ImageFault_ok (m := a) hs (below_stk _ _) (by simp only [go_sem, HP.push_rd_own])))) ?_
    simp (config := { maxSteps := 1000000 }) (disch := omega) only [go_sem, hc, hvlen, hvfg, hvld]
    refine W_callp rfl ⟨rfl, rfl⟩ (by simp only [go_sem]; exact upE (up (ImageFault_ok (m := a) hs (below_stk _ _) (by simp only [go_sem, HP.push_rd_own])))) ?_
    simp (config := { maxSteps := 1000000 }) (disch := omega) only [go_sem, hc]
end
end Go.Mini

namespace Go.Mini
open Go.RowKit Go.ChangeShapes
set_option linter.unusedVariables false
set_option linter.unusedSimpArgs false


section
variable {H : Type} {enc : TypeId × Value → H} {P : Program} {w : World} {φ : Nat → Option FuncId}
theorem given_ints {U e : TypeId} {r : Reach} {b : Nat} {x : Value} {d : DataW H} {ps : List MemPlace} (hu : P.underlying U = some (.slice e)) (hk : elemOk P tI.kinds e = true) (hs : P.cellsOf e = tI.size)
    (hok : Value.okWide P w r b U x) (h : DataW.Trod enc P w 0 (fun _ => true) true U x d ps) (n : Nat) :
    ∃ (L : List Int) (v : AV) (bf : Option Blk) (pl : Option Place), (∀ g : Nat → Option Place, g n = pl → VR φ (betaA g) v x) ∧
      (∀ (g : Nat → Option Place) (O : Nat → Prop) (b : Blk), g n = pl → bf = some b → ∃ pl' cs T fr, BR φ (betaA g) O (.arg n) b w pl' cs T fr) ∧ (∀ h : HP, h.arg n = bf → IntsV h v L) := by
  obtain ⟨l, hl, hc⟩ := given_slice (φ := φ) (t := tI) hu hk hs (by decide) hok h
  obtain ⟨L, rfl⟩ := dec_list (f := AV.int .i64) (fun _ h => dec_int h) l fun v hv => (hl v hv).1
  rcases hc with ⟨h0, hx⟩ | ⟨pl, hp⟩
  · have hL : L = [] := by simpa using h0
    subst hL
    rcases hx with rfl | ⟨a, cap, rfl⟩
    · exact ⟨[], .nilsl, none, none, fun g _ => by simp [VR, VR1, AV.isAgg, LR, AV.rel], fun _ _ b _ hb => by simp at hb, fun h _ => ⟨rfl, fun _ _ => rfl, fun _ _ => rfl, fun k hk => by simp at hk⟩⟩
    · exact ⟨[], .slz, none, none, fun g _ => by simp [VR, VR1, AV.isAgg, LR, AV.rel], fun _ _ b _ hb => by simp at hb, fun h _ => ⟨rfl, fun _ _ => rfl, fun _ _ => rfl, fun k hk => by simp at hk⟩⟩
  · have hlen : (L.map (AV.int .i64)).length = L.length := List.length_map ..
    refine ⟨L, .sl (.arg n) 0 L.length, some ⟨.arr L.length tI, encL L⟩, some pl, fun g hg => ?_, fun g O b hg hb => ?_, fun h hh => ⟨rfl, fun a b => fg_args n a b _ _, fun a b => leads_args n a b _ _, fun k hk => ⟨n, rfl, ?_⟩⟩⟩
    · have := hp.val g n hg
      rwa [hlen] at this
    · simp only [Option.some.injEq] at hb
      subst hb
      obtain ⟨cs, T, fr, hB⟩ := hp.blk g O n hg
      rw [hlen] at hB
      exact ⟨pl, cs, T, fr, hB⟩
    · simp only [HP.look]; exact hh
end
end Go.Mini

