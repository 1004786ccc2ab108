/- A part of the proof: MiniD. -/
import Derived.Test.YtpkndgkaecamlabMiniC
namespace Go.Mini
set_option linter.unusedSimpArgs false
set_option linter.unusedVariables false

/-! Slots, own blocks, memory. -/
section
variable {T : Nat → Option MFun} {cx : Cx} {k : List Item} {kill : List Nat} {r : List MOp} {sl : Slots} {own : Own} {h : HP} {Q : St → Prop}

@[go_sem] theorem get_nil (u : Nat) : Slots.get [] u = .bot := rfl
@[go_sem] theorem get_cons (t u : Nat) (v : AV) (s : Slots) : Slots.get ((t, v) :: s) u = if t = u then v else Slots.get s u := rfl
@[go_sem] theorem set_nil (u : Nat) (x : AV) : Slots.set [] u x = [(u, x)] := rfl
@[go_sem] theorem set_cons (t u : Nat) (v x : AV) (s : Slots) : Slots.set ((t, v) :: s) u x = if t = u then (u, x) :: s else if u < t then (u, x) :: (t, v) :: s else (t, v) :: Slots.set s u x := rfl
@[go_sem] theorem oget_nil (u : Nat) : Own.get [] u = none := rfl
@[go_sem] theorem oget_cons (t u : Nat) (v : Blk) (s : Own) : Own.get ((t, v) :: s) u = if t = u then some v else Own.get s u := rfl
@[go_sem] theorem oset_nil (u : Nat) (x : Blk) : Own.set [] u x = [(u, x)] := rfl
@[go_sem] theorem oset_cons (t u : Nat) (v x : Blk) (s : Own) : Own.set ((t, v) :: s) u x = if t = u then (u, x) :: s else if u < t then (u, x) :: (t, v) :: s else (t, v) :: Own.set s u x := rfl
@[go_sem] theorem has_nil (t : Nat) : has [] t = false := rfl
@[go_sem] theorem has_cons (a t : Nat) (l : List Nat) : has (a :: l) t = (a == t || has l t) := rfl
@[go_sem] theorem without_nil (l : List Nat) : Slots.without [] l = [] := rfl
@[go_sem] theorem without_cons (t : Nat) (v : AV) (s : Slots) (l : List Nat) : Slots.without ((t, v) :: s) l = if has l t = true then Slots.without s l else (t, v) :: Slots.without s l := rfl
@[go_sem] theorem only_nil (l : List Nat) : Slots.only [] l = [] := rfl
@[go_sem] theorem only_cons (t : Nat) (v : AV) (s : Slots) (l : List Nat) : Slots.only ((t, v) :: s) l = if has l t = true then (t, v) :: Slots.only s l else Slots.only s l := rfl
@[go_sem] theorem oonly_nil (l : List Nat) : Own.only [] l = [] := rfl
@[go_sem] theorem oonly_cons (t : Nat) (v : Blk) (s : Own) (l : List Nat) : Own.only ((t, v) :: s) l = if has l t = true then (t, v) :: Own.only s l else Own.only s l := rfl
@[go_sem] theorem keep_mk (a b : List Nat) : St.keep ⟨sl, own, h⟩ a b = ⟨sl.only a, own.only b, h⟩ := rfl
@[go_sem] theorem setd_some (d : Nat) (v : AV) : St.setd ⟨sl, own, h⟩ (some d) v = ⟨sl.set d v, own, h⟩ := rfl
@[go_sem] theorem setd_none (v : AV) (s : St) : St.setd s none v = s := rfl
@[go_sem] theorem opd_s (t : Nat) : St.opd ⟨sl, own, h⟩ (.s t) = sl.get t := rfl
@[go_sem] theorem opd_c (v : AV) (s : St) : St.opd s (.c v) = v := rfl
@[go_sem] theorem opd_f (n : Nat) (s : St) : St.opd s (.f n) = .func n .unit := rfl

/-- What a slot's value becomes where a block is made anew. -/
def fg (v : AV) (i : Id) : AV := if v.leads i then .bot else v
@[go_sem] theorem forget_nil (i : Id) : Slots.forget [] i = [] := rfl
@[go_sem] theorem forget_cons (t : Nat) (v : AV) (s : Slots) (i : Id) : Slots.forget ((t, v) :: s) i = (t, fg v i) :: Slots.forget s i := rfl
@[go_sem] theorem fg_int (k : IntKind) (n : Int) (i : Id) : fg (.int k n) i = .int k n := rfl
@[go_sem] theorem fg_bool (b : Bool) (i : Id) : fg (.bool b) i = .bool b := rfl
@[go_sem] theorem fg_str (b : ByteArray) (i : Id) : fg (.str b) i = .str b := rfl
@[go_sem] theorem fg_arr {n : Nat} (f : Fin n → AV) (i : Id) : fg (.arr n f) i = .arr n f := rfl
@[go_sem] theorem fg_cons (a b : AV) (i : Id) : fg (.cons a b) i = .cons a b := rfl
@[go_sem] theorem fg_tup (a : AV) (i : Id) : fg (.tup a) i = .tup a := rfl
@[go_sem] theorem fg_undef (i : Id) : fg .undef i = .undef := rfl
@[go_sem] theorem fg_bot (i : Id) : fg .bot i = .bot := rfl
@[go_sem] theorem fg_nilp (i : Id) : fg .nilp i = .nilp := rfl
@[go_sem] theorem fg_nilsl (i : Id) : fg .nilsl i = .nilsl := rfl
@[go_sem] theorem fg_ite (c : Prop) [Decidable c] (a b : AV) (i : Id) : fg (if c then a else b) i = if c then fg a i else fg b i := by split <;> rfl

/-- Blocks of lower levels, and others. -/
def Id.below : Id → Nat → Prop
  | .stk l' _, l => l' < l
  | _, _ => True
theorem below_own {i : Id} {l : Nat} (h : i.below l) : i.own l = none := by
  cases i <;> simp_all [Id.below, Id.own]
  omega
theorem Id.below.succ {i : Id} {l : Nat} (h : i.below l) : i.below (l + 1) := by
  cases i <;> simp_all [Id.below]
  omega
@[go_sem] theorem below_stk (l t : Nat) : (Id.stk l t).below (l + 1) := by simp [Id.below]
@[go_sem] theorem below_obj (n l : Nat) : (Id.obj n).below l := trivial
@[go_sem] theorem below_arg (n l : Nat) : (Id.arg n).below l := trivial
theorem Id.below.ne {i : Id} {l t : Nat} (h : i.below l) : i ≠ .stk l t := by
  rintro rfl; simp [Id.below] at h
theorem fg_ptr {i : Id} {l t : Nat} (h : i.below l) (p : List Nat) (u : Ty) : fg (.ptr i p u) (.stk l t) = .ptr i p u := by
  have : (Id.stk l t == i) = false := by simpa using fun e : Id.stk l t = i => h.ne e.symm
  simp [fg, AV.leads, AV.isAgg, AV.names, this]
@[go_sem] theorem fg_own (l s t : Nat) (p : List Nat) (u : Ty) : fg (.ptr (.stk l s) p u) (.stk l t) = if t = s then .bot else .ptr (.stk l s) p u := by
  simp only [fg, AV.leads, AV.isAgg, AV.names, Bool.not_false, Bool.true_and, beq_iff_eq, Id.stk.injEq, true_and]

/-- At the head of a region that draws its order. -/
def siteOkK (cx : Cx) (s : St) : Option Nat → Bool
  | some d => (s.own.get d).isNone && s.sl.all fun p => !(p.2.leads (.stk cx.lvl d))
  | none => true
def noLead (l d : Nat) : Slots → Bool
  | [] => true
  | (_, v) :: s => !(v.leads (.stk l d)) && noLead l d s
@[go_sem] theorem noLead_nil (l d : Nat) : noLead l d [] = true := rfl
@[go_sem] theorem noLead_cons (l d t : Nat) (v : AV) (s : Slots) : noLead l d ((t, v) :: s) = (!(v.leads (.stk l d)) && noLead l d s) := rfl
@[go_sem] theorem siteOkK_none (s : St) : siteOkK cx s none = true := rfl
@[go_sem] theorem siteOkK_some (d : Nat) : siteOkK cx ⟨sl, own, h⟩ (some d) = ((own.get d).isNone && noLead cx.lvl d sl) := by
  simp only [siteOkK]; congr 1
  induction sl with
  | nil => rfl
  | cons p r ih => obtain ⟨t, v⟩ := p; simp only [List.all_cons, noLead, ih]
@[go_sem] theorem W_regT {ops : List MOp} {s : St} : W T cx (.code (.reg true ops kill) :: k) s Q = ((ops.map MOp.site).all (siteOkK cx s) = true ∧ W T cx (.ops ops kill :: k) s Q) := by
  have hd : (ops.map MOp.site).all (siteOkK cx s) = drawHead cx s ops := by
    simp only [drawHead, List.all_map]; congr 1
  rw [hd]
  by_cases h1 : drawHead cx s ops = true
  · rw [eq_true h1, true_and]; exact W_iff (by simp [next, h1])
  · rw [eq_false h1, false_and]; exact W_fail (by simp [next, h1])
@[go_sem] theorem leads_int (k : IntKind) (n : Int) (i : Id) : (AV.int k n).leads i = false := rfl
@[go_sem] theorem leads_bool (b : Bool) (i : Id) : (AV.bool b).leads i = false := rfl
@[go_sem] theorem leads_str (b : ByteArray) (i : Id) : (AV.str b).leads i = false := rfl
@[go_sem] theorem leads_arr {n : Nat} (f : Fin n → AV) (i : Id) : (AV.arr n f).leads i = false := rfl
@[go_sem] theorem leads_cons (a b : AV) (i : Id) : (AV.cons a b).leads i = false := rfl
@[go_sem] theorem leads_tup (a : AV) (i : Id) : (AV.tup a).leads i = false := rfl
@[go_sem] theorem leads_bot (i : Id) : AV.bot.leads i = false := rfl
@[go_sem] theorem leads_undef (i : Id) : AV.undef.leads i = false := rfl
@[go_sem] theorem leads_nilp (i : Id) : AV.nilp.leads i = false := rfl
theorem leads_ptr {i : Id} {l t : Nat} (h : i.below l) (p : List Nat) (u : Ty) : (AV.ptr i p u).leads (.stk l t) = false := by
  have : (Id.stk l t == i) = false := by simpa using fun e => h.ne e.symm
  simp [AV.leads, AV.isAgg, AV.names, this]
@[go_sem] theorem leads_own (l s t : Nat) (p : List Nat) (u : Ty) : (AV.ptr (.stk l s) p u).leads (.stk l t) = (t == s) := by
  simp only [AV.leads, AV.isAgg, AV.names, Bool.not_false, Bool.true_and]
  rw [Bool.eq_iff_iff]; simp
attribute [go_sem] MOp.site List.all_cons List.all_nil List.map_cons List.map_nil Option.isNone_none Option.isNone_some Bool.not_false Bool.not_true Bool.and_self Bool.true_and Bool.and_true Bool.or_true Bool.true_or Bool.or_false Bool.false_or Bool.false_and Bool.and_false true_and and_true Nat.reduceEqDiff Nat.reduceLT Nat.reduceBEq Bool.false_eq_true Option.map_some Option.map_none reduceCtorEq eq_self Nat.add_eq Nat.zero_add

attribute [go_sem ↓] reduceIte

/-! Reading. -/
@[go_sem] theorem rd_own {d : Nat} {p : List Nat} : St.rd cx ⟨sl, own, h⟩ (.stk cx.lvl d) p = (own.get d).bind fun b => b.val.at p := by
  simp [St.rd, St.look, Id.own]
theorem rd_ext {i : Id} (hi : i.below cx.lvl) {p : List Nat} : St.rd cx ⟨sl, own, h⟩ i p = h.rd i p := by
  simp [St.rd, St.look, below_own hi, HP.rd]
theorem HP.rd_app {h : HP} {i : Id} {p : List Nat} {v : AV} (hv : h.rd i p = some v) (q : List Nat) : h.rd i (p ++ q) = v.at q := by
  have key : ∀ (p : List Nat) (w : AV), w.at p = some v → w.at (p ++ q) = v.at q := by
    intro p
    induction p with
    | nil => intro w hw; simp [AV.at] at hw; subst hw; rfl
    | cons a p ih =>
      intro w hw
      match w, a, hw with
      | .arr n f, i, hw =>
        simp only [AV.at] at hw
        split at hw
        · rename_i hi; simp only [List.cons_append, AV.at, hi, dite_true]; exact ih _ hw
        · simp at hw
      | .cons x y, 0, hw => simp only [AV.at] at hw; simp only [List.cons_append, AV.at]; exact ih _ hw
      | .cons x y, i + 1, hw =>
        simp only [AV.at] at hw
        simp only [List.cons_append, AV.at]
        have : ∀ (j : Nat) (y : AV), y.at (j :: p) = some v → y.at (j :: (p ++ q)) = v.at q := by
          intro j
          induction j with
          | zero => intro y hy; match y, hy with
            | .arr n f, hy =>
              simp only [AV.at] at hy
              split at hy
              · rename_i hi; simp only [AV.at, hi, dite_true]; exact ih _ hy
              · simp at hy
            | .cons c d, hy => simp only [AV.at] at hy ⊢; exact ih _ hy
          | succ j ihj => intro y hy; match y, hy with
            | .arr n f, hy =>
              simp only [AV.at] at hy
              split at hy
              · rename_i hi; simp only [AV.at, hi, dite_true]; exact ih _ hy
              · simp at hy
            | .cons c d, hy => simp only [AV.at] at hy ⊢; exact ihj _ hy
        exact this i y hw
  unfold HP.rd at hv ⊢
  cases hl : h.look i with
  | none => rw [hl] at hv; simp at hv
  | some b => rw [hl] at hv; simp only [Option.bind] at hv ⊢; exact key p b.val hv
attribute [go_sem] Option.bind_some Option.bind_none List.append_assoc List.cons_append List.nil_append List.append_nil

@[go_sem] theorem at_nil (v : AV) : v.at [] = some v := by cases v <;> rfl
@[go_sem] theorem at_arr {n : Nat} {f : Fin n → AV} {i : Nat} (h : i < n) (p : List Nat) : (AV.arr n f).at (i :: p) = (f ⟨i, h⟩).at p := by simp [AV.at, h]
@[go_sem] theorem at_cons0 (a b : AV) (p : List Nat) : (AV.cons a b).at (0 :: p) = a.at p := rfl
@[go_sem] theorem at_cons1 (a b : AV) (i : Nat) (p : List Nat) : (AV.cons a b).at ((i + 1) :: p) = b.at (i :: p) := rfl
@[go_sem] theorem put_nil (v x : AV) : v.put [] x = some x := by cases v <;> rfl
@[go_sem] theorem put_cons0 (a b x : AV) (p : List Nat) : (AV.cons a b).put (0 :: p) x = (a.put p x).map fun y => .cons y b := rfl
@[go_sem] theorem put_cons1 (a b x : AV) (i : Nat) (p : List Nat) : (AV.cons a b).put ((i + 1) :: p) x = (b.put (i :: p) x).map fun y => .cons a y := rfl
@[go_sem] theorem put_arr {n : Nat} {f : Fin n → AV} {i : Nat} (h : i < n) (p : List Nat) (x : AV) : (AV.arr n f).put (i :: p) x = ((f ⟨i, h⟩).put p x).map fun y => .arr n fun j => if j.val = i then y else f j := by simp [AV.put, h]
@[go_sem] theorem ownW_eq (d : Nat) (p : List Nat) (v : AV) : ownW own d p v = (own.get d).bind fun b => (b.val.put p v).map fun u => own.set d ⟨b.ty, u⟩ := by
  simp only [ownW]
  cases own.get d with
  | none => rfl
  | some b => simp only [Option.bind]; cases b.val.put p v <;> rfl
@[go_sem] theorem fits_arrK {n : Nat} {t : Ty} {f : Fin n → AV} : ((Ty.arr n t).fits (.arr n f) = true) = ∀ i, t.fits (f i) = true := by
  simp [Ty.fits]
@[go_sem] theorem fits_cons (a b : Ty) (x y : AV) : ((Ty.cons a b).fits (.cons x y) = true) = (a.fits x = true ∧ b.fits y = true) := by simp [Ty.fits]
@[go_sem] theorem fits_unit : (Ty.unit.fits .unit = true) = True := by simp [Ty.fits]
@[go_sem] theorem fits_int (k : IntKind) (n : Int) : ((Ty.leaf (.int k)).fits (.int k n) = true) = True := by simp [Ty.fits, LK.fits, AV.safe]
@[go_sem] theorem fits_str (s : ByteArray) : ((Ty.leaf .str).fits (.str s) = true) = True := by simp [Ty.fits, LK.fits, AV.safe]
@[go_sem] theorem fits_bool (s : Bool) : ((Ty.leaf .bool).fits (.bool s) = true) = True := by simp [Ty.fits, LK.fits, AV.safe]

/-! Numbers and texts. -/
@[go_sem] theorem evBin_int (op : BinOp) (k : IntKind) (a b : Int) : evBin op (.int k a) (.int k b) = evInt op k a b := by simp [evBin]
@[go_sem] theorem evInt_eql (k : IntKind) (a b : Int) : evInt .eql k a b = some (.bool (decide (a = b))) := by simp [evInt]; rw [Bool.eq_iff_iff]; simp
@[go_sem] theorem evInt_neq (k : IntKind) (a b : Int) : evInt .neq k a b = some (.bool (!decide (a = b))) := by simp [evInt]; rw [Bool.eq_iff_iff]; simp
@[go_sem] theorem evInt_lss (k : IntKind) (a b : Int) : evInt .lss k a b = some (.bool (decide (a < b))) := rfl
@[go_sem] theorem evInt_leq (k : IntKind) (a b : Int) : evInt .leq k a b = some (.bool (decide (a ≤ b))) := rfl
@[go_sem] theorem evInt_gtr (k : IntKind) (a b : Int) : evInt .gtr k a b = some (.bool (decide (b < a))) := rfl
@[go_sem] theorem evInt_geq (k : IntKind) (a b : Int) : evInt .geq k a b = some (.bool (decide (b ≤ a))) := rfl
@[go_sem] theorem evInt_add (k : IntKind) (a b : Int) : evInt .add k a b = some (.int k (k.wrap (a + b))) := rfl
@[go_sem] theorem evInt_sub (k : IntKind) (a b : Int) : evInt .sub k a b = some (.int k (k.wrap (a - b))) := rfl
@[go_sem] theorem evInt_mul (k : IntKind) (a b : Int) : evInt .mul k a b = some (.int k (k.wrap (a * b))) := rfl
@[go_sem] theorem evBin_str (op : BinOp) (a b : ByteArray) : evBin op (.str a) (.str b) = evStr op a b := rfl
theorem bytes_loop (bs : ByteArray) : ∀ (n i : Nat) (r : List UInt8), bs.size - i = n → i ≤ bs.size → ByteArray.toList.loop bs i r = r.reverse ++ bs.data.toList.drop i := by
  have hlen : bs.data.toList.length = bs.size := Array.length_toList
  intro n
  induction n with
  | zero =>
    intro i r h hi
    have e : i = bs.size := by omega
    subst e
    rw [ByteArray.toList.loop, if_neg (Nat.lt_irrefl _), List.drop_eq_nil_of_le (by omega), List.append_nil]
  | succ n ih =>
    intro i r h hi
    have hlt : i < bs.size := by omega
    rw [ByteArray.toList.loop, if_pos hlt, ih (i + 1) _ (by omega) (by omega)]
    have hl : i < bs.data.toList.length := by omega
    rw [List.drop_eq_getElem_cons hl]
    have hg : bs.get! i = bs.data.toList[i] := by
      cases bs with
      | mk d =>
        have hd : i < d.size := hlt
        simp [ByteArray.get!, hd]
    simp [hg]
theorem bytes_list (bs : ByteArray) : bs.toList = bs.data.toList := by
  unfold ByteArray.toList
  rw [bytes_loop bs bs.size 0 [] (by omega) (by omega)]
  simp
theorem bytes_eq (a b : ByteArray) : (a.toList == b.toList) = decide (a = b) := by
  rw [Bool.eq_iff_iff]
  simp only [beq_iff_eq, decide_eq_true_eq]
  constructor
  · intro h
    rw [bytes_list, bytes_list] at h
    cases a; cases b
    simp only [ByteArray.mk.injEq]
    exact Array.toList_inj.1 h
  · rintro rfl; rfl
@[go_sem] theorem evStr_eql (a b : ByteArray) : evStr .eql a b = some (.bool (decide (a = b))) := by simp only [evStr, bytes_eq]
@[go_sem] theorem evStr_neq (a b : ByteArray) : evStr .neq a b = some (.bool (!decide (a = b))) := by simp only [evStr, bytes_eq]
@[go_sem] theorem evUn_not (b : Bool) : evUn .not (.bool b) = some (.bool !b) := rfl
@[go_sem] theorem wrap64 {n : Int} (h1 : -9223372036854775808 ≤ n) (h2 : n ≤ 9223372036854775807) : IntKind.i64.wrap n = n := by
  have e1 : (IntKind.i64).bits = 64 := rfl
  have e2 : (IntKind.i64).signed = true := rfl
  simp only [IntKind.wrap, e1, e2, Bool.true_and, ge_iff_le, decide_eq_true_eq]
  have p1 : (2 : Int) ^ 64 = 18446744073709551616 := rfl
  have p2 : (2 : Int) ^ (64 - 1) = 9223372036854775808 := rfl
  rw [p1, p2]
  split <;> omega

/-! Calls. -/
theorem Ok_eq {fn : MFun} {e : St} {R : AV → HP → Prop} : Ok T cx fn e R = W T cx [.code fn.body] e fun s => onO (results cx s fn.res) fun v => R v s.hp := by
  apply propext
  constructor
  · rintro ⟨n, s', v, hr, hv, hR⟩
    exact ⟨n, s', hr, by simp only [hv]; exact hR⟩
  · rintro ⟨n, s', hr, hq⟩
    cases hv : results cx s' fn.res with
    | none => rw [hv] at hq; exact hq.elim
    | some v => rw [hv] at hq; exact ⟨n, s', v, hr, hv, hq⟩
theorem Ok.mono {fn : MFun} {e : St} {R R' : AV → HP → Prop} (h : Ok T cx fn e R) (hr : ∀ v h', R v h' → R' v h') : Ok T cx fn e R' := by
  obtain ⟨n, s', v, h1, h2, h3⟩ := h; exact ⟨n, s', v, h1, h2, hr _ _ h3⟩

/-- The rule of a call, hiding nothing. -/
theorem W_callr {prot : Bool} {hide : List Nat} {f : Nat} {args : List Opd} {d : Option Nat} {fn : MFun} {R : AV → HP → Prop} (hf : T f = some fn) (hp : fn.params = args.length ∧ fn.nfree = 0)
    (hc : Ok T (St.callCx ⟨sl, own, h⟩ cx prot) fn (St.enter (args.map (St.opd ⟨sl, own, h⟩)) (h.push cx.lvl (own.veil hide))) R)
    (hq : ∀ v h', R v h' → W T cx (.ops r kill :: k) ((St.pop ⟨sl, own, h⟩ cx.lvl hide h').setd d v) Q) :
    W T cx (.ops (⟨d, .call prot hide f args, none⟩ :: r) kill :: k) ⟨sl, own, h⟩ Q := by
  refine W_call (R := R) (cx' := St.callCx ⟨sl, own, h⟩ cx prot) (hide := hide) (e := St.enter (args.map (St.opd ⟨sl, own, h⟩)) (h.push cx.lvl (own.veil hide))) (fn := fn) (d := d) (k1 := .ops r kill :: k) (s1 := ⟨sl, own, h⟩) ?_ hc hq
  simp only [next, St.wanted, opCmd, enterCmd, hf]
  rw [if_pos (by simpa using hp)]
  simp

@[go_sem] theorem veil_nil : own.veil [] = own := rfl
@[go_sem] theorem callCx_lvl (s : St) (p : Bool) : (s.callCx cx p).lvl = cx.lvl + 1 := rfl
theorem HP.push_rd_own {d : Nat} {p : List Nat} : (h.push cx.lvl own).rd (.stk cx.lvl d) p = (own.get d).bind fun b => b.val.at p := by
  simp [HP.rd, HP.look, HP.push]
theorem HP.push_rd_ext {i : Id} (hi : i.below cx.lvl) {p : List Nat} : (h.push cx.lvl own).rd i p = h.rd i p := by
  cases i <;> simp only [HP.rd, HP.look, HP.push]
  simp only [Id.below] at hi
  rw [if_neg (by omega)]
/-- Behind a call that wrote nothing. -/
theorem pop_push : St.pop ⟨sl, own, h⟩ cx.lvl [] (h.push cx.lvl own) = ⟨sl, own, h⟩ := by
  simp only [St.pop, HP.pop, HP.push, Own.unveil, if_true]
  congr 1
  cases h
  simp only [HP.mk.injEq, and_true]
  funext l
  by_cases hl : l = cx.lvl <;> simp [hl]
theorem W_callp {prot : Bool} {f : Nat} {args : List Opd} {d : Option Nat} {fn : MFun} {v : AV} (hf : T f = some fn) (hp : fn.params = args.length ∧ fn.nfree = 0)
    (hc : Ok T (St.callCx ⟨sl, own, h⟩ cx prot) fn (St.enter (args.map (St.opd ⟨sl, own, h⟩)) (h.push cx.lvl own)) fun v' h' => v' = v ∧ h' = h.push cx.lvl own)
    (hq : W T cx (.ops r kill :: k) (St.setd ⟨sl, own, h⟩ d v) Q) :
    W T cx (.ops (⟨d, .call prot [] f args, none⟩ :: r) kill :: k) ⟨sl, own, h⟩ Q := by
  refine W_callr hf hp hc ?_
  rintro v h' ⟨rfl, rfl⟩
  rw [pop_push]; exact hq
@[go_sem] theorem results_tmp {t : Nat} : results cx ⟨sl, own, h⟩ [.tmp t] = if (sl.get t).safe = true then some (sl.get t) else none := rfl
@[go_sem] theorem safe_int (k : IntKind) (n : Int) : (AV.int k n).safe = true := rfl
@[go_sem] theorem safe_bool (b : Bool) : (AV.bool b).safe = true := rfl
@[go_sem] theorem safe_str (b : ByteArray) : (AV.str b).safe = true := rfl
def cellV (cx : Cx) (s : St) (t : AV) (ty : Ty) : Option AV := match t with
  | .ptr i [] t' => if ty = t' then (s.look cx i).bind fun b => if b.ty = ty ∧ (b.val.isAgg || b.val.safe) = true then some b.val else none else none
  | _ => none
@[go_sem] theorem results_cell {t : Nat} {ty : Ty} : results cx ⟨sl, own, h⟩ [.cell t ty] = cellV cx ⟨sl, own, h⟩ (sl.get t) ty := rfl
@[go_sem] theorem cellV_own {d : Nat} {ty : Ty} : cellV cx ⟨sl, own, h⟩ (.ptr (.stk cx.lvl d) [] ty) ty = (own.get d).bind fun b => if b.ty = ty ∧ (b.val.isAgg || b.val.safe) = true then some b.val else none := by
  simp [cellV, St.look, Id.own]
end
end Go.Mini
