/- A part of the proof: CacheA. -/
import Derived.Test.YtpkndgkaecamlabMendA
namespace Go.Mini
set_option linter.unusedSimpArgs false
set_option linter.unusedVariables false
set_option maxHeartbeats 4000000
set_option maxRecDepth 100000

/-! A cache, and how it lies. -/
def encC (a b : Img) : AV := .cons a.enc (.cons b.enc .unit)
theorem fits_cache' (a b : Img) : tCache.fits (encC a b) = true := by
  show (Ty.cons tImage (.cons tImage .unit)).fits (AV.cons _ (.cons _ .unit)) = true
  simp only [fits_cons, fits_unit, fits_img', and_self]
@[go_sem] theorem fits_cache (a b : Img) : (tCache.fits (encC a b) = true) = True := eq_true (fits_cache' a b)
@[go_sem] theorem at_cache0 (a b : Img) (p : List Nat) : (encC a b).at (0 :: p) = a.enc.at p := rfl
@[go_sem] theorem at_cache1 (a b : Img) (p : List Nat) : (encC a b).at (1 :: p) = b.enc.at p := rfl
theorem put_cache0 (a b x : Img) : (encC a b).put [0] x.enc = some (encC x b) := by
  show (AV.put a.enc [] x.enc).map (fun y => AV.cons y (.cons b.enc .unit)) = _
  rw [put_nil]; rfl
theorem put_cache1 (a b x : Img) : (encC a b).put [1] x.enc = some (encC a x) := by
  show ((AV.put b.enc [] x.enc).map (fun y => AV.cons y .unit)).map (fun y => AV.cons a.enc y) = _
  rw [put_nil]; rfl
@[go_sem] theorem field_cache0 : tCache.field 0 = some tImage := rfl
@[go_sem] theorem field_cache1 : tCache.field 1 = some tImage := rfl
theorem zero_cache : tCache.zero = encC Img.zero Img.zero := by
  show AV.cons tImage.zero (.cons tImage.zero .unit) = _
  rw [zero_img]; rfl
@[go_sem] theorem fill_cache (a b : Img) : fill tCache tCache.zero [(0, a.enc), (1, b.enc)] = some (encC a b) := by
  rw [zero_cache]
  simp only [fill]
  show (if tImage.fits a.enc = true then _ else _) = _
  rw [if_pos (fits_img' a), put_cache0]
  show (if tImage.fits b.enc = true then _ else _) = _
  rw [if_pos (fits_img' b), put_cache1]
@[go_sem] theorem fg_cache (a b : Img) (i : Id) : fg (encC a b) i = encC a b := rfl
@[go_sem] theorem leads_cache (a b : Img) (i : Id) : (encC a b).leads i = false := rfl
@[go_sem] theorem isAgg_cache (a b : Img) : (encC a b).isAgg = true := rfl

def HP.cs (h : HP) (n : Nat) (a b : Img) : HP := h.set (.obj n) ⟨tCache, encC a b⟩
def HP.mk1 (h : HP) (a b : Img) : HP := { h.cs h.next a b with next := h.next + 1 }
theorem look_cs (h : HP) (n : Nat) (a b : Img) : (h.cs n a b).look (.obj n) = some ⟨tCache, encC a b⟩ := by simp [HP.cs, HP.set, HP.look]
theorem look_mk1 (h : HP) (a b : Img) : (h.mk1 a b).look (.obj h.next) = some ⟨tCache, encC a b⟩ := by simp [HP.mk1, HP.cs, HP.set, HP.look]
theorem cs_cs (h : HP) (n : Nat) (a b c d : Img) : (h.cs n a b).cs n c d = h.cs n c d := by
  simp only [HP.cs, HP.set]; congr 1; funext k; by_cases e : k = n <;> simp [e]
theorem mk1_cs (h : HP) (a b c d : Img) : (h.mk1 a b).cs h.next c d = h.mk1 c d := by
  simp only [HP.mk1, HP.cs, HP.set]; congr 1; funext k; by_cases e : k = h.next <;> simp [e]
theorem push_cs (h : HP) (l n : Nat) (o : Own) (a b : Img) : (h.push l o).cs n a b = (h.cs n a b).push l o := rfl
theorem push_mk1 (h : HP) (l : Nat) (o : Own) (a b : Img) : (h.push l o).mk1 a b = (h.mk1 a b).push l o := rfl
theorem push_look_obj (h : HP) (l n : Nat) (o : Own) : (h.push l o).look (.obj n) = h.look (.obj n) := rfl
theorem HP.rd0 {h : HP} {i : Id} {a : Nat} {v : AV} (hm : h.rd i [a] = some v) (r : List Nat) : h.rd i (a :: r) = v.at r := HP.rd_app hm r
theorem rd_of {h : HP} {n : Nat} {a b : Img} (h0 : h.look (.obj n) = some ⟨tCache, encC a b⟩) : h.rd (.obj n) [0] = some a.enc ∧ h.rd (.obj n) [1] = some b.enc := by
  simp only [HP.rd, h0, Option.bind_some, at_cache0, at_cache1, at_nil, and_self]
section
variable {T : Nat → Option MFun} {cx : Cx} {k : List Item} {kill : List Nat} {r : List MOp} {sl : Slots} {own : Own} {h : HP} {Q : St → Prop}
theorem W_callh {prot : Bool} {f : Nat} {args : List Opd} {d : Option Nat} {fn : MFun} {v : AV} (h1 : HP) (hf : T f = some fn) (hp : fn.params = args.length ∧ fn.nfree = 0) (hs : h1.stk = h.stk)
    (hc : Ok T (St.callCx ⟨sl, own, h⟩ cx prot) fn (St.enter (args.map (St.opd ⟨sl, own, h⟩)) (h.push cx.lvl own)) fun v' h' => v' = v ∧ h' = h1.push cx.lvl own)
    (hq : W T cx (.ops r kill :: k) (St.setd ⟨sl, own, h1⟩ d v) Q) :
    W T cx (.ops (⟨d, .call prot [] f args, none⟩ :: r) kill :: k) ⟨sl, own, h⟩ Q := by
  refine W_callr hf hp hc ?_
  rintro v h' ⟨rfl, rfl⟩
  have : St.pop ⟨sl, own, h⟩ cx.lvl [] (h1.push cx.lvl own) = ⟨sl, own, h1⟩ := by
    simp only [St.pop, HP.pop, HP.push, Own.unveil, if_true]
    congr 1
    cases h1
    simp only at hs
    subst hs
    simp only [HP.mk.injEq, and_true]
    funext l
    by_cases hl : l = cx.lvl <;> simp [hl]
  rw [this]; exact hq
theorem W_callhide {prot : Bool} {hide : List Nat} {f : Nat} {args : List Opd} {d : Option Nat} {fn : MFun} {v : AV} (hf : T f = some fn) (hp : fn.params = args.length ∧ fn.nfree = 0)
    (hc : Ok T (St.callCx ⟨sl, [], h⟩ cx prot) fn (St.enter (args.map (St.opd ⟨sl, [], h⟩)) (h.push cx.lvl [])) fun v' h' => v' = v ∧ h' = h.push cx.lvl [])
    (hq : W T cx (.ops r kill :: k) (St.setd ⟨sl, [], h⟩ d v) Q) :
    W T cx (.ops (⟨d, .call prot hide f args, none⟩ :: r) kill :: k) ⟨sl, [], h⟩ Q := by
  have e : Own.veil [] hide = [] := by cases hide <;> rfl
  refine W_callr (R := fun v' h' => v' = v ∧ h' = h.push cx.lvl []) hf hp (by rw [e]; exact hc) ?_
  rintro v h' ⟨rfl, rfl⟩
  have : St.pop ⟨sl, [], h⟩ cx.lvl hide (h.push cx.lvl []) = ⟨sl, [], h⟩ := by
    simp only [St.pop, HP.pop, HP.push, if_true]
    have e2 : Own.unveil [] [] hide = [] := by cases hide <;> rfl
    rw [e2]
    congr 1
    cases h
    simp only [HP.mk.injEq, and_true]
    funext l
    by_cases hl : l = cx.lvl <;> simp [hl]
  rw [this]; exact hq
def WBT (T : Nat → Option MFun) (cx : Cx) (v : AV) (d : Nat) (r : List MOp) (kill : List Nat) (k : List Item) (sl : Slots) (own : Own) (h : HP) (Q : St → Prop) : Prop :=
  tCache.fits v = true ∧ W T cx (.ops r kill :: k) ⟨sl.set d (.ptr (.obj h.next) [] tCache), own, { h with obj := fun n => if n = h.next then some ⟨tCache, v⟩ else h.obj n, next := h.next + 1 }⟩ Q
@[go_sem] theorem WBT_enc {a b : Img} {d : Nat} : WBT T cx (encC a b) d r kill k sl own h Q = W T cx (.ops r kill :: k) ⟨sl.set d (.ptr (.obj h.next) [] tCache), own, h.mk1 a b⟩ Q := by
  simp only [WBT, fits_cache, true_and]
  rfl
@[go_sem] theorem W_boxT {d : Nat} {x : Opd} : W T cx (.ops (⟨some d, .box true tCache x, none⟩ :: r) kill :: k) ⟨sl, own, h⟩ Q = WBT T cx (St.opd ⟨sl, own, h⟩ x) d r kill k sl own h Q := by
  rw [W_op rfl, evOp]
  simp only [evK, WBT]
  by_cases h1 : tCache.fits (St.opd ⟨sl, own, h⟩ x) = true
  · simp only [h1, true_and, if_true]; rfl
  · simp only [h1, false_and, Bool.false_eq_true, if_false]; rfl
theorem stV_cache0 {n : Nat} {a b x : Img} (hm : h.look (.obj n) = some ⟨tCache, encC a b⟩) (hl : cx.prot.lets (.obj n) = true) : stV cx tImage (.ptr (.obj n) [0] tImage) x.enc ⟨sl, own, h⟩ = some ⟨sl, own, h.cs n x b⟩ := by
  simp only [stV, fits_img', and_self, if_true, St.look, Id.own, hm, put_cache0, St.write, hl]
  rfl
theorem stV_cache1 {n : Nat} {a b x : Img} (hm : h.look (.obj n) = some ⟨tCache, encC a b⟩) (hl : cx.prot.lets (.obj n) = true) : stV cx tImage (.ptr (.obj n) [1] tImage) x.enc ⟨sl, own, h⟩ = some ⟨sl, own, h.cs n a x⟩ := by
  simp only [stV, fits_img', and_self, if_true, St.look, Id.own, hm, put_cache1, St.write, hl]
  rfl
@[go_sem] theorem eqV_nilp (neg : Bool) (n : Nat) (t : Ty) : eqV tP neg (.ptr (.obj n) [] t) .nilp = some (.bool neg) := by cases neg <;> rfl
@[go_sem] theorem eqV_nilnil (neg : Bool) : eqV tP neg .nilp .nilp = some (.bool (!neg)) := by cases neg <;> rfl
@[go_sem] theorem safe_ptrobj (n : Nat) (p : List Nat) (t : Ty) : (AV.ptr (.obj n) p t).safe = true := rfl
@[go_sem] theorem safe_nilp : AV.nilp.safe = true := rfl
@[go_sem] theorem callCx_prot (s : St) : (s.callCx cx false).prot = cx.prot := rfl
end

section
variable {cx : Cx} {h : HP} {n : Nat} {a b : Img}
theorem CNew_ok : Ok tblB cx Fn.cache_New (St.enter [] h) fun v h' => v = .ptr (.obj h.next) [] tCache ∧ h' = h.mk1 Img.blank Img.blank := by
  rw [Ok_eq]
  simp (config := { maxSteps := 1000000 }) (disch := omega) only [go_sem]
  refine W_callp rfl ⟨rfl, rfl⟩ (by simp only [go_sem]; exact up (New_ok)) ?_
  simp (config := { maxSteps := 1000000 }) (disch := omega) only [go_sem]
  refine W_callp rfl ⟨rfl, rfl⟩ (by simp only [go_sem]; exact up (New_ok)) ?_
  simp (config := { maxSteps := 1000000 }) (disch := omega) only [go_sem]
theorem COf_ok {m : Img} (hs : m.small) (hc : check m = 0) : Ok tblB cx Fn.cache_Of (St.enter [m.enc] h) fun v h' => v = .ptr (.obj h.next) [] tCache ∧ h' = h.mk1 m m := by
  rw [Ok_eq]
  simp (config := { maxSteps := 1000000 }) (disch := omega) only [go_sem]
  refine W_callp rfl ⟨rfl, rfl⟩ (by simp only [go_sem]; exact up (Check_ok (m := m) hs (below_stk _ _) (by simp only [go_sem, HP.push_rd_own]))) ?_
  simp (config := { maxSteps := 1000000 }) (disch := omega) only [go_sem, hc]
theorem COf_no {m : Img} (hs : m.small) (hc : ¬check m = 0) : Ok tblB cx Fn.cache_Of (St.enter [m.enc] h) fun v h' => v = .nilp ∧ h' = h := by
  rw [Ok_eq]
  simp (config := { maxSteps := 1000000 }) (disch := omega) only [go_sem]
  refine W_callp rfl ⟨rfl, rfl⟩ (by simp only [go_sem]; exact up (Check_ok (m := m) hs (below_stk _ _) (by simp only [go_sem, HP.push_rd_own]))) ?_
  simp (config := { maxSteps := 1000000 }) (disch := omega) only [go_sem, hc]
theorem CDisk_ok (hm : h.rd (.obj n) [0] = some a.enc) (hm' : h.rd (.obj n) [1] = some b.enc) : Ok tblB cx Fn.cache_Cache_Disk (St.enter [.ptr (.obj n) [] tCache] h) fun v h' => v = b.enc ∧ h' = h := by
  rw [Ok_eq]
  simp (config := { maxSteps := 1000000 }) (disch := omega) only [go_sem, rd_ext (below_obj _ _), HP.rd0 hm, HP.rd0 hm', fg_ptr (below_obj _ _), leads_ptr (below_obj _ _), apart_ptr (below_obj _ _), hm']
theorem CClean_ok (hm : h.rd (.obj n) [0] = some a.enc) (hm' : h.rd (.obj n) [1] = some b.enc) : Ok tblB cx Fn.cache_Cache_Clean (St.enter [.ptr (.obj n) [] tCache] h) fun v h' => v = .bool (decide (a = b)) ∧ h' = h := by
  rw [Ok_eq]
  simp (config := { maxSteps := 1000000 }) (disch := omega) only [go_sem, rd_ext (below_obj _ _), HP.rd0 hm, HP.rd0 hm', fg_ptr (below_obj _ _), leads_ptr (below_obj _ _), apart_ptr (below_obj _ _), hm, hm']
theorem CWrite_ok {x : Int} (h0 : h.look (.obj n) = some ⟨tCache, encC a b⟩) (hl : cx.prot.lets (.obj n) = true) :
    Ok tblB cx Fn.cache_Cache_Write (St.enter [.ptr (.obj n) [] tCache, .int .i64 x] h) fun v h' => v = .bool (writeAs a b x).2 ∧ h' = h.cs n a (writeAs a b x).1 := by
  obtain ⟨hm, hm'⟩ := rd_of h0
  rw [Ok_eq]
  simp (config := { maxSteps := 1000000 }) (disch := omega) only [go_sem, rd_ext (below_obj _ _), HP.rd0 hm, HP.rd0 hm', fg_ptr (below_obj _ _), leads_ptr (below_obj _ _), apart_ptr (below_obj _ _)]
  refine W_callhide rfl ⟨rfl, rfl⟩ (by simp only [go_sem]; exact up (Write_ok (m := a) (m' := b) (p := .obj n) (p' := .obj n) (q := [0]) (q' := [1]) (below_obj _ _) (by rw [HP.push_rd_ext (below_obj _ _)]; exact hm) (below_obj _ _) (by rw [HP.push_rd_ext (below_obj _ _)]; exact hm'))) ?_
  simp (config := { maxSteps := 1000000 }) (disch := omega) only [go_sem, rd_ext (below_obj _ _), HP.rd0 hm, HP.rd0 hm', fg_ptr (below_obj _ _), leads_ptr (below_obj _ _), apart_ptr (below_obj _ _), stV_cache1 h0 hl]
theorem CInode_ok (hm : h.rd (.obj n) [0] = some a.enc) (hm' : h.rd (.obj n) [1] = some b.enc) :
    Ok tblB cx Fn.cache_Cache_Inode (St.enter [.ptr (.obj n) [] tCache] h) fun v h' => v = .int .i64 (findN 8 fun k => !(a.ino k).live && decide (refs b k = 0)) ∧ h' = h := by
  rw [Ok_eq]
  simp (config := { maxSteps := 1000000 }) (disch := omega) only [go_sem, rd_ext (below_obj _ _), HP.rd0 hm, HP.rd0 hm', fg_ptr (below_obj _ _), leads_ptr (below_obj _ _), apart_ptr (below_obj _ _)]
  refine W_forP 8 (fun k => ⟨[(0, .ptr (.obj n) [] tCache), (9, encV Ino.enc a.inode), (10, .int .i64 k)], [], h⟩) (fun k => ∀ i, i < k → (!(a.ino i).live && decide (refs b i = 0)) = false) (by simp only [go_sem] <;> rfl) (fun i hi => by omega) fun k hk hp ih => ?_
  by_cases hlt : k < 8
  · simp (config := { maxSteps := 1000000 }) (disch := omega) only [go_sem, hlt, rd_ext (below_obj _ _), HP.rd0 hm, HP.rd0 hm', fg_ptr (below_obj _ _), leads_ptr (below_obj _ _), apart_ptr (below_obj _ _)]
    cases c1 : (a.ino k).live with
    | true =>
      simp (config := { maxSteps := 1000000 }) (disch := omega) only [go_sem, c1]
      refine ih _ hlt (step_all hp (by simp [c1])) ?_
      simp only [go_sem]
    | false =>
      simp (config := { maxSteps := 1000000 }) (disch := omega) only [go_sem, c1, rd_ext (below_obj _ _), HP.rd0 hm, HP.rd0 hm', fg_ptr (below_obj _ _), leads_ptr (below_obj _ _), apart_ptr (below_obj _ _)]
      refine W_callp rfl ⟨rfl, rfl⟩ (by simp only [go_sem]; exact up (Refs_ok (m := b) (p := .obj n) (q := [1]) (below_obj _ _) (by rw [HP.push_rd_ext (below_obj _ _)]; exact hm'))) ?_
      simp (config := { maxSteps := 1000000 }) (disch := omega) only [go_sem]
      by_cases c2 : refs b k = 0
      · simp (config := { maxSteps := 1000000 }) (disch := omega) only [go_sem, c2]
        rw [findN_at hp (by simp [c1, c2]) hlt]
      · simp (config := { maxSteps := 1000000 }) (disch := omega) only [go_sem, c2]
        refine ih _ hlt (step_all hp (by simp [c1, c2])) ?_
        simp only [go_sem]
  · obtain rfl : k = 8 := by omega
    simp (config := { maxSteps := 1000000 }) (disch := omega) only [go_sem]
    rw [findN_none hp]
def freeSlot (a b : Img) (d : Int) : Int := if d < 0 ∨ 3 ≤ d then -1 else findN 4 fun s => decide ((a.ent d.toNat s).name = ⟨#[]⟩) && decide ((b.ent d.toNat s).name = ⟨#[]⟩)
theorem CSlot_ok {d : Int} (hm : h.rd (.obj n) [0] = some a.enc) (hm' : h.rd (.obj n) [1] = some b.enc) :
    Ok tblB cx Fn.cache_Cache_Slot (St.enter [.ptr (.obj n) [] tCache, .int .i64 d] h) fun v h' => v = .int .i64 (freeSlot a b d) ∧ h' = h := by
  rw [Ok_eq]
  simp (config := { maxSteps := 1000000 }) (disch := omega) only [go_sem, rd_ext (below_obj _ _), HP.rd0 hm, HP.rd0 hm', fg_ptr (below_obj _ _), leads_ptr (below_obj _ _), apart_ptr (below_obj _ _)]
  by_cases c0 : d < 0
  · simp (config := { maxSteps := 1000000 }) (disch := omega) only [go_sem, c0]; simp [freeSlot, c0]
  by_cases c3 : 3 ≤ d
  · simp (config := { maxSteps := 1000000 }) (disch := omega) only [go_sem, c0, c3]; simp [freeSlot, c3]
  have e : freeSlot a b d = findN 4 fun s => decide ((a.ent d.toNat s).name = ⟨#[]⟩) && decide ((b.ent d.toNat s).name = ⟨#[]⟩) := by simp only [freeSlot]; rw [if_neg (by omega)]
  simp (config := { maxSteps := 1000000 }) (disch := omega) only [go_sem, c0, c3]
  refine W_forP 4 (fun s => ⟨[(0, .ptr (.obj n) [] tCache), (1, .int .i64 d), (12, .int .i64 s)], [], h⟩) (fun s => ∀ i, i < s → (decide ((a.ent d.toNat i).name = ⟨#[]⟩) && decide ((b.ent d.toNat i).name = ⟨#[]⟩)) = false) (by simp only [go_sem] <;> rfl) (fun i hi => by omega) fun s hs hp ih => ?_
  by_cases hlt : s < 4
  · simp (config := { maxSteps := 1000000 }) (disch := omega) only [go_sem, hlt, c0, c3, rd_ext (below_obj _ _), HP.rd0 hm, HP.rd0 hm', fg_ptr (below_obj _ _), leads_ptr (below_obj _ _), apart_ptr (below_obj _ _)]
    by_cases c1 : (a.ent d.toNat s).name = ⟨#[]⟩
    · by_cases c2 : (b.ent d.toNat s).name = ⟨#[]⟩
      · simp (config := { maxSteps := 1000000 }) (disch := omega) only [go_sem, hlt, c0, c3, c1, c2, rd_ext (below_obj _ _), HP.rd0 hm, HP.rd0 hm', fg_ptr (below_obj _ _), leads_ptr (below_obj _ _), apart_ptr (below_obj _ _), e]
        rw [findN_at hp (by simp [c1, c2]) hlt]
      · simp (config := { maxSteps := 1000000 }) (disch := omega) only [go_sem, hlt, c0, c3, c1, c2, rd_ext (below_obj _ _), HP.rd0 hm, HP.rd0 hm', fg_ptr (below_obj _ _), leads_ptr (below_obj _ _), apart_ptr (below_obj _ _)]
        refine ih _ hlt (step_all hp (by simp [c2])) ?_
        simp only [go_sem]
    · simp (config := { maxSteps := 1000000 }) (disch := omega) only [go_sem, c1]
      refine ih _ hlt (step_all hp (by simp [c1])) ?_
      simp only [go_sem]
  · obtain rfl : s = 4 := by omega
    simp (config := { maxSteps := 1000000 }) (disch := omega) only [go_sem, e]
    rw [findN_none hp]
theorem CData_ok (hm : h.rd (.obj n) [0] = some a.enc) (hm' : h.rd (.obj n) [1] = some b.enc) :
    Ok tblB cx Fn.cache_Cache_Data (St.enter [.ptr (.obj n) [] tCache] h) fun v h' => v = .int .i64 (findN 9 fun x => !held a x && !held b x) ∧ h' = h := by
  rw [Ok_eq]
  simp (config := { maxSteps := 1000000 }) (disch := omega) only [go_sem, rd_ext (below_obj _ _), HP.rd0 hm, HP.rd0 hm', fg_ptr (below_obj _ _), leads_ptr (below_obj _ _), apart_ptr (below_obj _ _)]
  refine W_forP 9 (fun k => ⟨[(0, .ptr (.obj n) [] tCache), (4, .int .i64 k)], [], h⟩) (fun k => ∀ i, i < k → (!held a i && !held b i) = false) (by simp only [go_sem] <;> rfl) (fun i hi => by omega) fun k hk hp ih => ?_
  by_cases hlt : k < 9
  · simp (config := { maxSteps := 1000000 }) (disch := omega) only [go_sem, hlt, rd_ext (below_obj _ _), HP.rd0 hm, HP.rd0 hm', fg_ptr (below_obj _ _), leads_ptr (below_obj _ _), apart_ptr (below_obj _ _)]
    refine W_callp rfl ⟨rfl, rfl⟩ (by simp only [go_sem]; exact up (Holds_ok (m := a) (p := .obj n) (q := [0]) (below_obj _ _) (by rw [HP.push_rd_ext (below_obj _ _)]; exact hm))) ?_
    simp (config := { maxSteps := 1000000 }) (disch := omega) only [go_sem]
    cases c1 : held a k with
    | true =>
      simp (config := { maxSteps := 1000000 }) (disch := omega) only [go_sem, c1]
      refine ih _ hlt (step_all hp (by simp [c1])) ?_
      simp only [go_sem]
    | false =>
      simp (config := { maxSteps := 1000000 }) (disch := omega) only [go_sem, c1, rd_ext (below_obj _ _), HP.rd0 hm, HP.rd0 hm', fg_ptr (below_obj _ _), leads_ptr (below_obj _ _), apart_ptr (below_obj _ _)]
      refine W_callp rfl ⟨rfl, rfl⟩ (by simp only [go_sem]; exact up (Holds_ok (m := b) (p := .obj n) (q := [1]) (below_obj _ _) (by rw [HP.push_rd_ext (below_obj _ _)]; exact hm'))) ?_
      simp (config := { maxSteps := 1000000 }) (disch := omega) only [go_sem]
      cases c2 : held b k with
      | false =>
        simp (config := { maxSteps := 1000000 }) (disch := omega) only [go_sem, c2]
        rw [findN_at hp (by simp [c1, c2]) hlt]
      | true =>
        simp (config := { maxSteps := 1000000 }) (disch := omega) only [go_sem, c2]
        refine ih _ hlt (step_all hp (by simp [c1, c2])) ?_
        simp only [go_sem]
  · obtain rfl : k = 9 := by omega
    simp (config := { maxSteps := 1000000 }) (disch := omega) only [go_sem]
    rw [findN_none hp]
end
end Go.Mini

namespace Go.Mini
set_option linter.unusedSimpArgs false
set_option linter.unusedVariables false
set_option maxHeartbeats 4000000
set_option maxRecDepth 100000

/-! Dirty. -/

def dirty (a b : Img) (x : Int) : Bool :=
  if (blockOf x).1 = sInodes then anyN 4 fun j => !decide (a.ino ((blockOf x).2.toNat + j) = b.ino ((blockOf x).2.toNat + j))
  else if (blockOf x).1 = sDir then anyN 4 fun s => !decide (a.ent (blockOf x).2.toNat s = b.ent (blockOf x).2.toNat s)
  else if (blockOf x).1 = sData then !decide (a.dat (blockOf x).2.toNat = b.dat (blockOf x).2.toNat)
  else false
section
variable {a b : Img} {x : Int} {n : Nat}
theorem dirty_i (e : blockOf x = (sInodes, (n : Int))) : dirty a b x = anyN 4 fun j => !decide (a.ino (n + j) = b.ino (n + j)) := by simp only [dirty, e, if_true, Int.toNat_natCast]
theorem dirty_d (e : blockOf x = (sDir, (n : Int))) : dirty a b x = anyN 4 fun s => !decide (a.ent n s = b.ent n s) := by simp only [dirty, e, if_true, if_false, ne_di, Int.toNat_natCast]
theorem dirty_a (e : blockOf x = (sData, (n : Int))) : dirty a b x = !decide (a.dat n = b.dat n) := by simp only [dirty, e, if_true, if_false, ne_ai, ne_ad, Int.toNat_natCast]
theorem dirty_n (e : blockOf x = (sNone, 0)) : dirty a b x = false := by simp only [dirty, e, if_false, ne_ni, ne_nd, ne_na]
end
theorem row_eq (a b : Img) {n : Nat} (hn : n < 3) : (decide (a.dir[n]'hn = b.dir[n]'hn)) = !anyN 4 fun s => !decide (a.ent n s = b.ent n s) := by
  rw [Bool.eq_iff_iff, decide_eq_true_eq, Bool.not_eq_true', anyN_false]
  constructor
  · intro h s hs
    have : a.ent n s = b.ent n s := by simp [Img.ent, hn, hs, h]
    simp [this]
  · intro h
    ext s hs : 1
    have := h s hs
    simpa [Img.ent, hn, hs] using this
/-- All lies there as it is to just if no block is dirty. -/
theorem clean_iff (a b : Img) : (a = b) ↔ ∀ k : Nat, k < 14 → dirty a b k = false := by
  have bi : ∀ k : Nat, k < 2 → blockOf (k : Int) = (sInodes, ((k * 4 : Nat) : Int)) := fun k hk => by
    unfold blockOf; rw [if_neg (by omega), if_pos (by omega)]; congr 1
  have bd : ∀ k : Nat, k < 3 → blockOf ((k + 2 : Nat) : Int) = (sDir, (k : Int)) := fun k hk => by
    unfold blockOf; rw [if_neg (by omega), if_neg (by omega), if_pos (by omega)]; congr 1; omega
  have ba : ∀ k : Nat, k < 9 → blockOf ((k + 5 : Nat) : Int) = (sData, (k : Int)) := fun k hk => by
    unfold blockOf; rw [if_neg (by omega), if_neg (by omega), if_neg (by omega)]; congr 1; omega
  constructor
  · rintro rfl k hk
    obtain ⟨n, _, e⟩ | ⟨n, _, e⟩ | ⟨n, _, e⟩ | e := blockOf_cases (k : Int)
    · rw [dirty_i e, anyN_false]; intro i _; simp
    · rw [dirty_d e, anyN_false]; intro i _; simp
    · rw [dirty_a e]; simp
    · exact dirty_n e
  · intro h
    refine Img.ext_of (fun n hn => ?_) (fun d s hd hs => ?_) (fun x hx => ?_)
    · have := h (n / 4) (by omega)
      rw [dirty_i (bi (n / 4) (by omega)), anyN_false] at this
      have := this (n % 4) (by omega)
      rw [show n / 4 * 4 + n % 4 = n by omega] at this
      simpa using this
    · have := h (d + 2) (by omega)
      rw [dirty_d (bd d hd), anyN_false] at this
      simpa using this s hs
    · have := h (x + 5) (by omega)
      rw [dirty_a (ba x hx)] at this
      simpa using this

/-! Sync. -/
def wrDown (a b : Img) : Nat → Img
  | 0 => b
  | k + 1 => (writeAs a (wrDown a b k) (13 - (k : Int))).1
def syncD (a b : Img) : Nat → Img
  | 0 => b
  | k + 1 => wrDown a (syncD a b k) 14
section
variable {cx : Cx} {h : HP} {n : Nat} {a b : Img}
theorem CDirty_ok {x : Int} (hm : h.rd (.obj n) [0] = some a.enc) (hm' : h.rd (.obj n) [1] = some b.enc) :
    Ok tblB cx Fn.cache_Cache_Dirty (St.enter [.ptr (.obj n) [] tCache, .int .i64 x] h) fun v h' => v = .bool (dirty a b x) ∧ h' = h := by
  rw [Ok_eq]
  simp (config := { maxSteps := 1000000 }) (disch := omega) only [go_sem]
  refine W_callp rfl ⟨rfl, rfl⟩ (by simp only [go_sem]; exact up (Block_ok)) ?_
  simp (config := { maxSteps := 1000000 }) (disch := omega) only [go_sem]
  obtain ⟨k, hk, e⟩ | ⟨k, hk, e⟩ | ⟨k, hk, e⟩ | e := blockOf_cases x
  · simp (config := { maxSteps := 1000000 }) (disch := omega) only [go_sem, e]
    refine W_forP 4 (fun j => ⟨[(0, .ptr (.obj n) [] tCache), (6, .int .i64 k), (7, .int .i64 (k + j : Nat))], [], h⟩) (fun j => ∀ i, i < j → (!decide (a.ino (k + i) = b.ino (k + i))) = false) (by simp only [go_sem] <;> rfl) (fun i hi => by omega) fun j hj hp ih => ?_
    by_cases hlt : j < 4
    · simp (config := { maxSteps := 1000000 }) (disch := omega) only [go_sem, hlt, rd_ext (below_obj _ _), HP.rd0 hm, HP.rd0 hm', fg_ptr (below_obj _ _), leads_ptr (below_obj _ _), apart_ptr (below_obj _ _)]
      by_cases c : a.ino (k + j) = b.ino (k + j)
      · simp (config := { maxSteps := 1000000 }) (disch := omega) only [go_sem, c]
        refine ih _ hlt (step_all hp (by simp [c])) ?_
        simp only [go_sem, Int.add_assoc]
      · simp (config := { maxSteps := 1000000 }) (disch := omega) only [go_sem, c]
        rw [dirty_i e, anyN_at hlt (by simp [c])]
    · obtain rfl : j = 4 := by omega
      simp (config := { maxSteps := 1000000 }) (disch := omega) only [go_sem]
      rw [dirty_i e, anyN_false.2 hp]
  · simp (config := { maxSteps := 1000000 }) (disch := omega) only [go_sem, e, rd_ext (below_obj _ _), HP.rd0 hm, HP.rd0 hm', fg_ptr (below_obj _ _), leads_ptr (below_obj _ _), apart_ptr (below_obj _ _), row_eq a b hk, dirty_d e, Bool.not_not]
  · simp (config := { maxSteps := 1000000 }) (disch := omega) only [go_sem, e, rd_ext (below_obj _ _), HP.rd0 hm, HP.rd0 hm', fg_ptr (below_obj _ _), leads_ptr (below_obj _ _), apart_ptr (below_obj _ _), dirty_a e]
  · simp (config := { maxSteps := 1000000 }) (disch := omega) only [go_sem, e, dirty_n e]
theorem CSync_ok (hl : cx.prot.lets (.obj n) = true) : Ok tblB cx Fn.cache_Cache_Sync (St.enter [.ptr (.obj n) [] tCache] (h.cs n a b)) fun v h' =>
    ∃ k : Nat, k ≤ 8 ∧ v = .int .i64 k ∧ h' = h.cs n a (syncD a b k) ∧ (k = 8 ∨ a = syncD a b k) ∧ ∀ i, i < k → ¬a = syncD a b i := by
  rw [Ok_eq]
  simp (config := { maxSteps := 1000000 }) (disch := omega) only [go_sem]
  refine W_forP 8 (fun j => ⟨[(0, .ptr (.obj n) [] tCache), (3, .int .i64 j)], [], h.cs n a (syncD a b j)⟩) (fun j => ∀ i, i < j → ¬a = syncD a b i) (by simp only [go_sem, syncD] <;> rfl) (fun i hi => by omega) fun j hj hp ih => ?_
  by_cases hlt : j < 8
  · obtain ⟨hm, hm'⟩ := rd_of (look_cs h n a (syncD a b j))
    simp (config := { maxSteps := 1000000 }) (disch := omega) only [go_sem]
    refine W_callp rfl ⟨rfl, rfl⟩ (by simp only [go_sem]; exact CClean_ok (a := a) (b := syncD a b j) (by rw [HP.push_rd_ext (below_obj _ _)]; exact hm) (by rw [HP.push_rd_ext (below_obj _ _)]; exact hm')) ?_
    simp (config := { maxSteps := 1000000 }) (disch := omega) only [go_sem]
    by_cases c : a = syncD a b j
    · have c' : decide (a = syncD a b j) = true := decide_eq_true c
      simp (config := { maxSteps := 1000000 }) (disch := omega) only [go_sem, c']
      exact ⟨j, hj, rfl, rfl, .inr c, hp⟩
    · simp (config := { maxSteps := 1000000 }) (disch := omega) only [go_sem, c]
      refine W_for 14 (fun i => ⟨[(0, .ptr (.obj n) [] tCache), (3, .int .i64 j), (4, .int .i64 (13 - (i : Int)))], [], h.cs n a (wrDown a (syncD a b j) i)⟩) (by simp only [go_sem, wrDown] <;> rfl) fun i hi ih2 => ?_
      by_cases hlt2 : i < 14
      · simp (config := { maxSteps := 1000000 }) (disch := omega) only [go_sem]
        refine W_callh (v := .bool (writeAs a (wrDown a (syncD a b j) i) (13 - (i : Int))).2) (h.cs n a (wrDown a (syncD a b j) (i + 1))) rfl ⟨rfl, rfl⟩ rfl (by
          simp only [go_sem]
          refine Ok.mono (CWrite_ok (h := (h.cs n a (wrDown a (syncD a b j) i)).push cx.lvl []) (n := n) (a := a) (b := wrDown a (syncD a b j) i) (by rw [push_look_obj]; exact look_cs h n a _) hl) ?_
          rintro v h' ⟨h1, h2⟩
          exact ⟨h1, by rw [h2, push_cs, cs_cs]; rfl⟩) ?_
        simp (config := { maxSteps := 1000000 }) (disch := omega) only [go_sem]
        refine ih2 _ hlt2 ?_
        have e2 : (13 : Int) - (i : Int) - 1 = 13 - ((i : Int) + 1) := by omega
        simp only [go_sem, e2]
      · obtain rfl : i = 14 := by omega
        simp (config := { maxSteps := 1000000 }) (disch := omega) only [go_sem]
        refine ih _ hlt (step_all hp c) ?_
        simp only [go_sem, syncD]
  · obtain rfl : j = 8 := by omega
    simp (config := { maxSteps := 1000000 }) (disch := omega) only [go_sem]
    exact ⟨8, Nat.le_refl _, rfl, rfl, .inl rfl, hp⟩
end
end Go.Mini

namespace Go.Mini
set_option linter.unusedSimpArgs false
set_option linter.unusedVariables false
set_option maxHeartbeats 4000000
set_option maxRecDepth 100000

theorem ok_write (a b : Img) (x : Int) : (writeAs a b x).2 = !decide ((blockOf x).1 = ⟨#[]⟩) := by
  obtain ⟨n, hn, e⟩ | ⟨n, hn, e⟩ | ⟨n, hn, e⟩ | e := blockOf_cases x
  · rw [writeAs_i e, e]; simp [sInodes, ne_ni]; try decide
  · rw [writeAs_d e, e]; simp [sDir]; try decide
  · rw [writeAs_a e, e]; simp [sData]; try decide
  · rw [writeAs_n e, e]; simp [sNone]
theorem cbf1 : ¬Img.one = syncD Img.one Img.blank 0 := by decide +kernel
theorem cbf2 : Img.one = syncD Img.one Img.blank 1 ∨ Img.one = syncD Img.one Img.blank 2 ∨ Img.one = syncD Img.one Img.blank 3 := by decide +kernel
theorem cb3 : dirty Img.blank Img.blank 0 = false := by decide +kernel
theorem cb4 : (findN 8 fun k => !(Img.blank.ino k).live && decide (refs Img.blank k = 0)) = 0 := by decide +kernel
theorem cb5 : freeSlot Img.blank Img.blank 1 = 0 := by decide +kernel
theorem cb6 : (findN 9 fun x => !held Img.blank x) = 0 := by decide +kernel
theorem cb7 : freeSlot Img.blank Img.blank 3 = -1 := by decide +kernel
theorem cb8 : dirty Img.one Img.blank 3 = true := by decide +kernel
theorem cb9 : decide (Img.one = Img.blank) = false := by decide +kernel
theorem cb10 : (findN 8 fun k => !(Img.one.ino k).live && decide (refs Img.blank k = 0)) = 0 := by decide +kernel
theorem cb11 : check Img.zero = 12 := by decide +kernel
theorem cb12 : (blockOf (-1)).1 = sNone := by decide +kernel
section
variable {cx : Cx} {h : HP} {a b m m' : Img}
theorem W_callhv {T : Nat → Option MFun} {k : List Item} {kill : List Nat} {r : List MOp} {sl : Slots} {own : Own} {Q : St → Prop} {P : AV → Prop} {prot : Bool} {f : Nat} {args : List Opd} {d : Option Nat} {fn : MFun} (h1 : HP) (hf : T f = some fn) (hp : fn.params = args.length ∧ fn.nfree = 0) (hs : h1.stk = h.stk)
    (hc : Ok T (St.callCx ⟨sl, own, h⟩ cx prot) fn (St.enter (args.map (St.opd ⟨sl, own, h⟩)) (h.push cx.lvl own)) fun v' h' => P v' ∧ h' = h1.push cx.lvl own)
    (hq : ∀ v, P v → W T cx (.ops r kill :: k) (St.setd ⟨sl, own, h1⟩ d v) Q) :
    W T cx (.ops (⟨d, .call prot [] f args, none⟩ :: r) kill :: k) ⟨sl, own, h⟩ Q := by
  refine W_callr hf hp hc ?_
  rintro v h' ⟨hv, rfl⟩
  have : St.pop ⟨sl, own, h⟩ cx.lvl [] (h1.push cx.lvl own) = ⟨sl, own, h1⟩ := by
    simp only [St.pop, HP.pop, HP.push, Own.unveil, if_true]
    congr 1
    cases h1
    simp only at hs
    subst hs
    simp only [HP.mk.injEq, and_true]
    funext l
    by_cases hl : l = cx.lvl <;> simp [hl]
  rw [this]; exact hq v hv
theorem look_two0 (a b c d : Img) : ((h.mk1 a b).mk1 c d).look (.obj h.next) = some ⟨tCache, encC a b⟩ := by
  have : ¬h.next = h.next + 1 := by omega
  simp [HP.mk1, HP.cs, HP.set, HP.look, this]
theorem look_two1 (a b c d : Img) : ((h.mk1 a b).mk1 c d).look (.obj (h.next + 1)) = some ⟨tCache, encC c d⟩ := by
  simp [HP.mk1, HP.cs, HP.set, HP.look]
theorem look_two2 (a b c d e f : Img) : (((h.mk1 a b).mk1 c d).cs h.next e f).look (.obj (h.next + 1)) = some ⟨tCache, encC c d⟩ := by
  have : ¬h.next + 1 = h.next := by omega
  simp [HP.mk1, HP.cs, HP.set, HP.look, this]
theorem cacheBegun_ok (hl : cx.prot.lets (.obj h.next) = true) : Ok tblB cx Fn.eiderdownlaw_cacheBegun (St.enter [] h) fun v h' => v = .bool true ∧ h' = ((h.mk1 Img.blank Img.blank).mk1 Img.one Img.one).cs h.next Img.one Img.one := by
  rw [Ok_eq]
  simp (config := { maxSteps := 1000000 }) (disch := omega) only [go_sem]
  refine W_callh (v := .ptr (.obj h.next) [] tCache) (h.mk1 Img.blank Img.blank) rfl ⟨rfl, rfl⟩ rfl (by simp only [go_sem]; exact CNew_ok) ?_
  simp (config := { maxSteps := 1000000 }) (disch := omega) only [go_sem]
  refine W_callp rfl ⟨rfl, rfl⟩ (by simp only [go_sem]; exact COf_no (m := Img.zero) zero_small (by rw [cb11]; decide)) ?_
  simp (config := { maxSteps := 1000000 }) (disch := omega) only [go_sem]
  refine W_callp rfl ⟨rfl, rfl⟩ (by simp only [go_sem]; exact up (one_ok)) ?_
  simp (config := { maxSteps := 1000000 }) (disch := omega) only [go_sem]
  refine W_callh (v := .ptr (.obj (h.next + 1)) [] tCache) ((h.mk1 Img.blank Img.blank).mk1 Img.one Img.one) rfl ⟨rfl, rfl⟩ rfl (by simp only [go_sem]; exact COf_ok one_small ib1) ?_
  obtain ⟨r0, r1⟩ := rd_of (look_two0 (h := h) Img.blank Img.blank Img.one Img.one)
  simp (config := { maxSteps := 1000000 }) (disch := omega) only [go_sem]
  refine W_callp rfl ⟨rfl, rfl⟩ (by simp only [go_sem]; exact CClean_ok (a := Img.blank) (b := Img.blank) (by rw [HP.push_rd_ext (below_obj _ _)]; exact r0) (by rw [HP.push_rd_ext (below_obj _ _)]; exact r1)) ?_
  simp (config := { maxSteps := 1000000 }) (disch := omega) only [go_sem]
  refine W_callp rfl ⟨rfl, rfl⟩ (by simp only [go_sem]; exact CDirty_ok (a := Img.blank) (b := Img.blank) (by rw [HP.push_rd_ext (below_obj _ _)]; exact r0) (by rw [HP.push_rd_ext (below_obj _ _)]; exact r1)) ?_
  simp (config := { maxSteps := 1000000 }) (disch := omega) only [go_sem, cb3]
  refine W_callp rfl ⟨rfl, rfl⟩ (by simp only [go_sem]; exact CInode_ok (a := Img.blank) (b := Img.blank) (by rw [HP.push_rd_ext (below_obj _ _)]; exact r0) (by rw [HP.push_rd_ext (below_obj _ _)]; exact r1)) ?_
  simp (config := { maxSteps := 1000000 }) (disch := omega) only [go_sem, cb4]
  refine W_callp rfl ⟨rfl, rfl⟩ (by simp only [go_sem]; exact CSlot_ok (a := Img.blank) (b := Img.blank) (by rw [HP.push_rd_ext (below_obj _ _)]; exact r0) (by rw [HP.push_rd_ext (below_obj _ _)]; exact r1)) ?_
  simp (config := { maxSteps := 1000000 }) (disch := omega) only [go_sem, cb5]
  refine W_callp rfl ⟨rfl, rfl⟩ (by simp only [go_sem]; exact CData_ok (a := Img.blank) (b := Img.blank) (by rw [HP.push_rd_ext (below_obj _ _)]; exact r0) (by rw [HP.push_rd_ext (below_obj _ _)]; exact r1)) ?_
  simp (config := { maxSteps := 1000000 }) (disch := omega) only [go_sem, cb6]
  refine W_callp rfl ⟨rfl, rfl⟩ (by simp only [go_sem]; exact CSlot_ok (a := Img.blank) (b := Img.blank) (by rw [HP.push_rd_ext (below_obj _ _)]; exact r0) (by rw [HP.push_rd_ext (below_obj _ _)]; exact r1)) ?_
  simp (config := { maxSteps := 1000000 }) (disch := omega) only [go_sem, cb7]
  refine W_callp rfl ⟨rfl, rfl⟩ (by simp only [go_sem]; exact up (one_ok)) ?_
  simp (config := { maxSteps := 1000000 }) (disch := omega) only [go_sem, stV_cache0 (x := Img.one) (look_two0 (h := h) Img.blank Img.blank Img.one Img.one) hl]
  obtain ⟨s0, s1⟩ := rd_of (look_cs ((h.mk1 Img.blank Img.blank).mk1 Img.one Img.one) h.next Img.one Img.blank)
  refine W_callp rfl ⟨rfl, rfl⟩ (by simp only [go_sem]; exact CDirty_ok (a := Img.one) (b := Img.blank) (by rw [HP.push_rd_ext (below_obj _ _)]; exact s0) (by rw [HP.push_rd_ext (below_obj _ _)]; exact s1)) ?_
  simp (config := { maxSteps := 1000000 }) (disch := omega) only [go_sem, cb8]
  refine W_callp rfl ⟨rfl, rfl⟩ (by simp only [go_sem]; exact CClean_ok (a := Img.one) (b := Img.blank) (by rw [HP.push_rd_ext (below_obj _ _)]; exact s0) (by rw [HP.push_rd_ext (below_obj _ _)]; exact s1)) ?_
  simp (config := { maxSteps := 1000000 }) (disch := omega) only [go_sem, cb9]
  refine W_callp rfl ⟨rfl, rfl⟩ (by simp only [go_sem]; exact CInode_ok (a := Img.one) (b := Img.blank) (by rw [HP.push_rd_ext (below_obj _ _)]; exact s0) (by rw [HP.push_rd_ext (below_obj _ _)]; exact s1)) ?_
  simp (config := { maxSteps := 1000000 }) (disch := omega) only [go_sem, cb10]
  refine W_callhv (P := fun v => ∃ k : Nat, 0 < k ∧ v = .int .i64 k) (((h.mk1 Img.blank Img.blank).mk1 Img.one Img.one).cs h.next Img.one Img.one) rfl ⟨rfl, rfl⟩ rfl (by
    simp only [go_sem]
    refine Ok.mono (CSync_ok (h := (((h.mk1 Img.blank Img.blank).mk1 Img.one Img.one).push cx.lvl [])) (n := h.next) (a := Img.one) (b := Img.blank) hl) ?_
    rintro v h' ⟨k, hk, rfl, rfl, h1, h2⟩
    have hk0 : ¬k = 0 := by rintro rfl; rcases h1 with h1 | h1; · omega
                            · exact cbf1 h1
    have e : Img.one = syncD Img.one Img.blank k := by
      rcases h1 with rfl | h1
      · rcases cbf2 with h | h | h
        · exact absurd h (h2 1 (by omega))
        · exact absurd h (h2 2 (by omega))
        · exact absurd h (h2 3 (by omega))
      · exact h1
    refine ⟨⟨k, by omega, rfl⟩, ?_⟩
    rw [← e, push_cs]) ?_
  rintro _ ⟨k, hk, rfl⟩
  obtain ⟨u0, u1⟩ := rd_of (look_cs ((h.mk1 Img.blank Img.blank).mk1 Img.one Img.one) h.next Img.one Img.one)
  simp (config := { maxSteps := 1000000 }) (disch := omega) only [go_sem]
  refine W_callp rfl ⟨rfl, rfl⟩ (by simp only [go_sem]; exact CClean_ok (a := Img.one) (b := Img.one) (by rw [HP.push_rd_ext (below_obj _ _)]; exact u0) (by rw [HP.push_rd_ext (below_obj _ _)]; exact u1)) ?_
  simp (config := { maxSteps := 1000000 }) (disch := omega) only [go_sem]
  refine W_callp rfl ⟨rfl, rfl⟩ (by simp only [go_sem]; exact CDisk_ok (a := Img.one) (b := Img.one) (by rw [HP.push_rd_ext (below_obj _ _)]; exact u0) (by rw [HP.push_rd_ext (below_obj _ _)]; exact u1)) ?_
  simp (config := { maxSteps := 1000000 }) (disch := omega) only [go_sem]
  refine W_callp rfl ⟨rfl, rfl⟩ (by simp only [go_sem]; exact up (one_ok)) ?_
  simp (config := { maxSteps := 1000000 }) (disch := omega) only [go_sem]
  obtain ⟨w0, w1⟩ := rd_of (look_two2 (h := h) Img.blank Img.blank Img.one Img.one Img.one Img.one)
  refine W_callp rfl ⟨rfl, rfl⟩ (by simp only [go_sem]; exact CClean_ok (a := Img.one) (b := Img.one) (by rw [HP.push_rd_ext (below_obj _ _)]; exact w0) (by rw [HP.push_rd_ext (below_obj _ _)]; exact w1)) ?_
  simp (config := { maxSteps := 1000000 }) (disch := omega) only [go_sem]
  refine W_callh (v := .bool (writeAs Img.one Img.one (-1)).2) (((h.mk1 Img.blank Img.blank).mk1 Img.one Img.one).cs h.next Img.one Img.one) rfl ⟨rfl, rfl⟩ rfl (by
          simp only [go_sem]
          refine Ok.mono (CWrite_ok (h := (((h.mk1 Img.blank Img.blank).mk1 Img.one Img.one).cs h.next Img.one Img.one).push cx.lvl []) (n := h.next) (a := Img.one) (b := Img.one) (by rw [push_look_obj]; exact look_cs _ h.next _ _) hl) ?_
          rintro v h' ⟨h1, h2⟩
          refine ⟨h1, ?_⟩
          rw [h2, push_cs, cs_cs]; congr 2) ?_
  simp (config := { maxSteps := 1000000 }) (disch := omega) only [go_sem, ok_write, cb12]
end
end Go.Mini
