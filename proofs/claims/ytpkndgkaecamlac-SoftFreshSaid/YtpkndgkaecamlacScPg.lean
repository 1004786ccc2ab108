/- A part of the proof: what Sc computes, step by step. -/
import Derived.Test.YtpkndgkaecamlacScPf
import Derived.ChangeSame
import Derived.Carry
import Derived.OpenShut
import Derived.ProofKit
import Derived.WalkKit
import Derived.Deep.Slices
import Derived.Deep.Fields1

namespace Go.Mini
open Go.RowKit Go.ChangeShapes
set_option linter.unusedVariables false
section
variable {H : Type} {enc : TypeId × Value → H} {P : Program}
theorem trodAll_stays (hl : laidOutB P = true) {W W' : World} {sp : Nat → Bool} (hB : Below W.heap.size W W') : ∀ {ts : List TypeId} {vs : List Value} {ds : List (DataW H)} {ps : List MemPlace},
    (∀ t ∈ ts, P.readableRec t = true ∧ t < P.types.size) → DataW.TrodAll enc P W 0 (fun _ => true) true ts vs ds ps → (∀ p ∈ ps, p.block < W.heap.size) → (∀ p ∈ ps, sp p.block = true) →
    DataW.TrodAll enc P W' 0 sp true ts vs ds ps
  | [], vs, ds, ps, _, h, _, _ => by
    obtain ⟨rfl, rfl, rfl⟩ := trodAll_nil h
    exact trodAll_mk0
  | t :: ts, vs, ds, ps, ht, h, h1, h2 => by
    obtain ⟨v, vs', d, ds', p, q, rfl, rfl, rfl, h3, h4⟩ := trodAll_cons h
    exact ⟨p, q, WideElems.Trod_stays hl (ht t List.mem_cons_self).1 (ht t List.mem_cons_self).2 h3 (fun x hx => hB.same (h1 x (List.mem_append_left _ hx))) (fun x hx => h2 x (List.mem_append_left _ hx)),
      trodAll_stays hl hB (fun t' ht' => ht t' (List.mem_cons_of_mem _ ht')) h4 (fun x hx => h1 x (List.mem_append_right _ hx)) (fun x hx => h2 x (List.mem_append_right _ hx)), rfl⟩
theorem law_post {f : Func} {s : ChangeSpec} {tb : TypeId} {W W' : World} {args : Array Value} {ds gs : List (DataW H)} {before : List MemPlace} (hl : laidOutB P = true) (hts : ∀ t ∈ f.params.toList, P.readableRec t = true ∧ t < P.types.size)
    (hv : s.vars = []) (hr : f.resultTypes = #[tb]) (hb : P.underlying tb = some .bool)
    (hW : DataW.Whole enc P f.params.toList s.vars false W args.toList ds gs before) (hs : s.fn H ds = { results := [.lit (.bool true)], args := ds }) (hB : Below W.heap.size W W') :
    s.post enc P f false true false false W args (.bool true) W' := by
  have hlt := hW.lt
  obtain ⟨p, q, hA, hV, rfl, hfz, hnd⟩ := id hW
  rw [hv] at hV
  obtain ⟨rfl, rfl⟩ := trodVars_none hV
  refine ⟨ds, [], p ++ [], [], p, [], hW, ?_, ?_, ?_, hB.frame _, fun h => by cases h⟩
  · rw [hr, List.append_nil, hs]
    exact trodAll_cons_mk (shut_bool hb _) trodAll_mk0
  · rw [List.append_nil, hs]
    exact trodAll_stays hl hB hts hA (fun x hx => hlt x (by simpa using hx)) (fun x hx => by simpa using hlt x (by simpa using hx))
  · rw [hv, List.append_nil, hs]
    rfl
end
theorem dec_encV {α : Type} {f : α → AV} {t : Ty} {n : Nat} (h : ∀ v, t.fits v = true → ∃ a, v = f a) {v : AV} (hv : (Ty.arr n t).fits v = true) : ∃ w : Vector α n, v = encV f w := by
  cases v with
  | arr k g =>
    simp only [Ty.fits, Bool.and_eq_true, beq_iff_eq, List.all_eq_true] at hv
    obtain ⟨rfl, hg⟩ := hv
    have hc : ∀ i, ∃ a, g i = f a := fun i => h _ (hg i (List.mem_finRange _))
    refine ⟨Vector.ofFn fun i => (hc i).choose, ?_⟩
    simp only [encV]
    congr 1
    funext i
    simp only [Fin.getElem_fin, Vector.getElem_ofFn]
    exact (hc i).choose_spec
  | _ => simp [Ty.fits] at hv
theorem dec_int {v : AV} (h : tI.fits v = true) : ∃ n, v = .int .i64 n := by
  cases v <;> simp [tI, Ty.fits, LK.fits, AV.safe] at h
  subst h; exact ⟨_, rfl⟩
theorem dec_bool {v : AV} (h : tB.fits v = true) : ∃ n, v = .bool n := by
  cases v <;> simp [tB, Ty.fits, LK.fits, AV.safe] at h
  exact ⟨_, rfl⟩
theorem dec_str {v : AV} (h : tS.fits v = true) : ∃ n, v = .str n := by
  cases v <;> simp [tS, Ty.fits, LK.fits, AV.safe] at h
  exact ⟨_, rfl⟩
theorem dec_cons {a b : Ty} {v : AV} (h : (Ty.cons a b).fits v = true) : ∃ x y, v = .cons x y ∧ a.fits x = true ∧ b.fits y = true := by
  cases v <;> simp [Ty.fits] at h
  exact ⟨_, _, rfl, h⟩
theorem dec_unit {v : AV} (h : Ty.unit.fits v = true) : v = .unit := by
  cases v <;> simp [Ty.fits] at h
  rfl
theorem dec_ent {v : AV} (h : tEntry.fits v = true) : ∃ e : Ent, v = e.enc := by
  obtain ⟨a, v, rfl, ha, h⟩ := dec_cons h
  obtain ⟨b, v, rfl, hb, h⟩ := dec_cons h
  obtain ⟨c, v, rfl, hc, h⟩ := dec_cons h
  obtain rfl := dec_unit h
  obtain ⟨a, rfl⟩ := dec_str ha
  obtain ⟨b, rfl⟩ := dec_int hb
  obtain ⟨c, rfl⟩ := dec_int hc
  exact ⟨⟨a, b, c⟩, rfl⟩
theorem dec_dat {v : AV} (h : tData.fits v = true) : ∃ e : Dat, v = e.enc := by
  obtain ⟨a, v, rfl, ha, h⟩ := dec_cons h
  obtain ⟨b, v, rfl, hb, h⟩ := dec_cons h
  obtain rfl := dec_unit h
  obtain ⟨a, rfl⟩ := dec_int ha
  obtain ⟨b, rfl⟩ := dec_str hb
  exact ⟨⟨a, b⟩, rfl⟩
theorem dec_ino {v : AV} (h : tInode.fits v = true) : ∃ e : Ino, v = e.enc := by
  obtain ⟨a, v, rfl, ha, h⟩ := dec_cons h
  obtain ⟨b, v, rfl, hb, h⟩ := dec_cons h
  obtain ⟨c, v, rfl, hc, h⟩ := dec_cons h
  obtain ⟨d, v, rfl, hd, h⟩ := dec_cons h
  obtain rfl := dec_unit h
  obtain ⟨a, rfl⟩ := dec_bool ha
  obtain ⟨b, rfl⟩ := dec_int hb
  obtain ⟨c, rfl⟩ := dec_int hc
  obtain ⟨d, rfl⟩ := dec_encV (f := AV.int .i64) (fun _ => dec_int) hd
  exact ⟨⟨a, b, c, d⟩, rfl⟩
theorem dec_img {v : AV} (h : tImage.fits v = true) : ∃ e : Img, v = e.enc := by
  obtain ⟨a, v, rfl, ha, h⟩ := dec_cons h
  obtain ⟨b, v, rfl, hb, h⟩ := dec_cons h
  obtain ⟨c, v, rfl, hc, h⟩ := dec_cons h
  obtain rfl := dec_unit h
  obtain ⟨a, rfl⟩ := dec_encV (f := Ino.enc) (fun _ => dec_ino) ha
  obtain ⟨b, rfl⟩ := dec_encV (f := encV Ent.enc) (fun _ => dec_encV (f := Ent.enc) fun _ => dec_ent) hb
  obtain ⟨c, rfl⟩ := dec_encV (f := Dat.enc) (fun _ => dec_dat) hc
  exact ⟨⟨a, b, c⟩, rfl⟩
end Go.Mini

namespace Go.Mini
open Go.RowKit Go.ChangeShapes
set_option linter.unusedVariables false
set_option linter.unusedSimpArgs false
def HP.args (f : Nat → Option Blk) : HP := ⟨fun _ => [], fun _ => none, 0, f⟩
def betaA (g : Nat → Option Place) : Beta
  | .arg n => g n
  | _ => none
def elemOk (P : Program) (ks : List LK) (e : TypeId) : Bool :=
  match P.underlying e with
  | some (.struct fs) => Go.Deep.oneCellFields P fs && (P.cellsOf e == fs.size) && (fs.toList.map (fun f => kindOf (P.underlying f.type)) == ks.map some)
  | d => (P.cellsOf e == 1) && (match kindOf d with | some k => ks == [k] | none => false)
section
variable {H : Type} {enc : TypeId × Value → H} {P : Program} {w : World} {base : Nat} {spare : Nat → Bool} {held : Bool} {φ : Nat → Option FuncId} {β : Beta}
theorem wf_has {k : IntKind} {n : Int} (h : (Lit.int k n).wf = true) : k.has n := by
  simp only [Lit.wf, Bool.and_eq_true, decide_eq_true_eq] at h
  exact h
theorem maxLen_le {n : Nat} (h : n ≤ maxLen) : (n : Int) ≤ IntKind.i64.max := by
  have : IntKind.i64.max = 2 ^ 63 - 1 := by decide
  rw [this]
  unfold maxLen at h
  omega
theorem leaf_trod {u : TypeId} {k : LK} {n : Nat} {cs : List Value} {y : DataW H × List MemPlace} (hk : kindOf (P.underlying u) = some k) (h : DataW.trod enc P w base spare held n u cs = some y) : ∃ x, cs = [x] ∧ okCell k x := by
  unfold kindOf at hk
  split at hk <;> simp at hk <;> subst hk <;> rename_i hu
  · cases n with
    | zero => simp [DataW.trod] at h
    | succ n =>
      unfold DataW.trod at h
      rw [hu] at h
      match cs, h with
      | [.bool b], _ => exact ⟨_, rfl, b, rfl⟩
  · obtain ⟨s, rfl, _, hs⟩ := DataW.trod_string hu h
    exact ⟨_, rfl, s, rfl, maxLen_le hs⟩
  · obtain ⟨m, rfl, _, hs⟩ := DataW.trod_int hu h
    exact ⟨_, rfl, m, rfl, wf_has hs⟩
theorem elem_trod {e : TypeId} {ks : List LK} {n : Nat} {cs : List Value} {y : DataW H × List MemPlace} (hk : elemOk P ks e = true) (h : DataW.trod enc P w base spare held n e cs = some y) : All2 okCell ks cs := by
  unfold elemOk at hk
  split at hk
  · rename_i fs hu
    simp only [Bool.and_eq_true, beq_iff_eq] at hk
    obtain ⟨⟨h1, h2⟩, h3⟩ := hk
    obtain ⟨xs, m, rfl, rfl, hl, hxl, hf⟩ := DataW.trod_struct hu h
    have hone := Go.Deep.hone_of h1
    have hkl : ks.length = fs.size := by simpa using (congrArg List.length h3).symm
    refine ⟨by omega, fun i k x hi hx => ?_⟩
    have hi' : i < fs.size := by
      rcases Nat.lt_or_ge i ks.length with h | h
      · omega
      · rw [List.getElem?_eq_none h] at hi; simp at hi
    have hfi : fs[i]? = some fs[i] := Array.getElem?_eq_getElem hi'
    obtain ⟨ho, hc1⟩ := hone i _ hfi
    have g := hf i _ hfi
    rw [ho, hc1, Go.Deep.take1_drop cs i undef (by omega), List.getElem?_eq_getElem (by omega)] at g
    have hki : kindOf (P.underlying fs[i].type) = some k := by
      have := congrArg (fun l => l[i]?) h3
      simp only [List.getElem?_map, hi, Array.getElem?_toList, hfi, Option.map_some] at this
      simpa using this
    obtain ⟨x', e1, e2⟩ := leaf_trod hki g
    have : cs.getD i undef = x := by simp [List.getD, hx]
    rw [this] at e1
    simp at e1
    subst e1; exact e2
  · simp only [Bool.and_eq_true, beq_iff_eq] at hk
    obtain ⟨_, hk⟩ := hk
    cases hq : kindOf (P.underlying e) with
    | none => rw [hq] at hk; simp at hk
    | some k =>
      rw [hq] at hk
      simp at hk
      subst hk
      obtain ⟨x, rfl, hx⟩ := leaf_trod hq h
      exact All2.cons hx All2.nil
structure SliceAt (φ : Nat → Option FuncId) (W : World) (t : Ty) (l : List AV) (x : Value) (pl : Place) : Prop where
  ty : pl.ty = .arr l.length t
  val : ∀ (g : Nat → Option Place) n, g n = some pl → VR φ (betaA g) (.sl (.arg n) 0 l.length) x
  blk : ∀ (g : Nat → Option Place) (O : Nat → Prop) n, g n = some pl → ∃ cs T fr, BR φ (betaA g) O (.arg n) ⟨.arr l.length t, .ofList l⟩ W pl cs T fr
theorem fits_ofList {t : Ty} {l : List AV} (h : ∀ v ∈ l, t.fits v = true) : (Ty.arr l.length t).fits (.ofList l) = true := by
  simp only [AV.ofList, Ty.fits, beq_self_eq_true, Bool.true_and, List.all_eq_true]
  exact fun i _ => h _ (List.get_mem ..)
theorem given_slice {t : Ty} {U e : TypeId} {r : Reach} {b : Nat} {x : Value} {d : DataW H} {ps : List MemPlace} (hu : P.underlying U = some (.slice e)) (hk : elemOk P t.kinds e = true) (hs : P.cellsOf e = t.size) (hp : 0 < t.size)
    (hok : Value.okWide P w r b U x) (h : DataW.Trod enc P w 0 (fun _ => true) true U x d ps) :
    ∃ l : List AV, (∀ v ∈ l, t.fits v = true ∧ v.ranged) ∧ ((l = [] ∧ (x = .slice none 0 0 ∨ ∃ a cap, x = .slice (some a) 0 cap)) ∨ ∃ pl, SliceAt φ w t l x pl) := by
  obtain ⟨fuel, h⟩ := h
  have hx : Cell.okWide P w r b U x := by unfold Value.okWide at hok; rw [hu] at hok; exact hok
  have hx' : Cell.ok P w r b U x := by
    unfold Cell.okWide at hx
    rw [hu] at hx
    cases x <;> exact hx
  have hx'' : x = .slice none 0 0 ∨ ∃ a len cap, x = .slice (some a) len cap ∧ len ≤ cap ∧ a.spot = none := by
    unfold Cell.ok at hx'
    rw [hu] at hx'
    cases x with
    | slice a len cap =>
      cases a with
      | none =>
        cases len <;> cases cap <;> simp at hx'
        exact .inl rfl
      | some a => exact .inr ⟨a, len, cap, rfl, hx'.1, hx'.2.2.2.1⟩
    | _ => simp at hx'
  rcases hx'' with rfl | ⟨a, len, cap, rfl, hlc, hspot⟩
  · exact ⟨[], by simp, .inl ⟨rfl, .inl rfl⟩⟩
  by_cases h0 : len = 0
  · subst h0
    exact ⟨[], by simp, .inl ⟨rfl, .inr ⟨a, cap, rfl⟩⟩⟩
  rcases Go.Deep.open_slice hu h with ⟨h1, _⟩ | ⟨a', len', cap', m, n, D, Pl, h1, _, _, hcm, hm, _, hel⟩
  · simp [Value.cells] at h1
  simp [Value.cells] at h1
  obtain ⟨rfl, rfl, rfl⟩ := h1
  simp only [if_true] at hm
  subst hm
  rw [hs] at hel
  obtain ⟨br, off, spot⟩ := a
  simp only at hspot
  subst hspot
  -- the block
  obtain ⟨cs0, hc0, _⟩ := hel 0 (by omega)
  obtain ⟨_, hl0, hcell0⟩ := World.cells?_some hc0
  have hb0 := hcell0 0 hp
  rw [List.getElem?_eq_getElem (by omega)] at hb0
  obtain ⟨cs, T, fr, hheap⟩ : ∃ cs T fr, w.heap[br]? = some (.cells cs T fr) := by
    have hblk : ((Addr.mk br off none).add (0 * t.size)).add 0 = ⟨br, off, none⟩ := by simp [Addr.add]
    rw [hblk] at hb0
    unfold World.cell? at hb0
    split at hb0
    · exact ⟨_, _, _, by assumption⟩
    · simp at hb0
  have hcell : ∀ i, i < m → ∀ k, k < t.size → ∀ ci, w.cells? 0 ((Addr.mk br off none).add (i * t.size)) t.size = some ci → cs[off + i * t.size + k]? = ci[k]? := by
    intro i hi k hkt ci hci
    obtain ⟨_, hl, hcell⟩ := World.cells?_some hci
    rw [← hcell k hkt]
    have : ((Addr.mk br off none).add (i * t.size)).add k = ⟨br, off + i * t.size + k, none⟩ := by
      unfold Addr.add
      by_cases e1 : i * t.size = 0 <;> by_cases e2 : k = 0 <;> simp [e1, e2]
    rw [this]
    simp [World.cell?, hheap]
  obtain ⟨V, hV⟩ := Go.Deep.choose_lt (α := AV) (n := len) (p := fun i v => t.fits v = true ∧ v.ranged ∧ ∀ (β : Beta) k c, v.flat[k]? = some c → ∃ x, cs[off + i * t.size + k]? = some x ∧ LR φ β c x) (fun i hi => by
    obtain ⟨ci, hci, hti⟩ := hel i (by omega)
    obtain ⟨_, hlci, _⟩ := World.cells?_some hci
    obtain ⟨v, hf, hl, hr⟩ := build (φ := φ) (β := fun _ => none) t ci (elem_trod hk hti)
    refine ⟨v, hf, hr, fun β k c hc => ?_⟩
    have hkt : k < t.size := by
      rcases Nat.lt_or_ge k v.flat.length with h | h
      · rw [Ty.fits_length hf] at h; exact h
      · rw [List.getElem?_eq_none h] at hc; simp at hc
    refine ⟨ci[k]'(by omega), ?_, ?_⟩
    · rw [hcell i (by omega) k hkt ci hci, List.getElem?_eq_getElem (by omega)]
    · have := hl.2 k c _ hc (List.getElem?_eq_getElem (by omega))
      exact LR_congr (fun i pl _ h => by simp at h) this)
  refine ⟨(List.range len).map V, fun v hv => ?_, .inr ⟨⟨br, off, .arr len t, m * t.size⟩, by simp, fun g n hg => ?_, fun g O n hg => ⟨cs, T, fr, ?_⟩⟩⟩
  · obtain ⟨i, hi, rfl⟩ := List.mem_map.1 hv
    obtain ⟨h1, h2, _⟩ := hV i (List.mem_range.1 hi)
    exact ⟨h1, h2⟩
  · refine VR_of_VR1 ?_
    simp only [VR1, AV.isAgg, Bool.false_eq_true, if_false, LR, AV.rel, List.length_map, List.length_range]
    exact ⟨_, len, t, m, hg, rfl, by omega, by omega, by simp, by simp⟩
  · have hfits : (Ty.arr ((List.range len).map V).length t).fits (.ofList ((List.range len).map V)) = true := fits_ofList fun v hv => by
      obtain ⟨i, hi, rfl⟩ := List.mem_map.1 hv
      exact (hV i (List.mem_range.1 hi)).1
    refine ⟨hg, by simp, hfits, hheap, ?_, ?_, ?_, fun h => by simp [Id.isArg] at h⟩
    · -- room
      obtain ⟨ci, hci, _⟩ := hel (m - 1) (by omega)
      obtain ⟨_, hlci, _⟩ := World.cells?_some hci
      have := hcell (m - 1) (by omega) (t.size - 1) (by omega) ci hci
      rw [List.getElem?_eq_getElem (by omega)] at this
      obtain ⟨hlt, _⟩ := Array.getElem?_eq_some_iff.1 this
      show off + m * t.size ≤ cs.size
      have e : m * t.size = (m - 1) * t.size + t.size := by
        have : m = (m - 1) + 1 := by omega
        calc m * t.size = ((m - 1) + 1) * t.size := by rw [← this]
          _ = _ := by rw [Nat.add_mul, Nat.one_mul]
      omega
    · simp only [Ty.size, List.length_map, List.length_range]
      exact Nat.mul_le_mul_right _ hlc
    · intro k c hc
      have hflat : (AV.ofList ((List.range len).map V)).flat = (List.range len).flatMap fun i => (V i).flat := by
        rw [arr_flat, List.flatMap_map]
      rw [hflat] at hc
      have hlen : ∀ i ∈ List.range len, ((V i).flat).length = t.size := fun i hi => Ty.fits_length (hV i (List.mem_range.1 hi)).1
      have hk : k / t.size < len := by
        have hkl : k < ((List.range len).flatMap fun i => (V i).flat).length := by
          rcases Nat.lt_or_ge k ((List.range len).flatMap fun i => (V i).flat).length with h | h
          · exact h
          · rw [List.getElem?_eq_none h] at hc; simp at hc
        have hll : ((List.range len).flatMap fun i => (V i).flat).length = len * t.size := by
          rw [List.length_flatMap, List.map_congr_left hlen, List.map_const', List.sum_replicate_nat, List.length_range]
        rw [hll] at hkl
        exact (Nat.div_lt_iff_lt_mul hp).2 hkl
      have e := getElem?_flatMap_const (List.range len) (fun i => (V i).flat) t.size hlen (k / t.size) (by simpa using hk) (k % t.size) (Nat.mod_lt _ hp)
      have ek : k / t.size * t.size + k % t.size = k := by rw [Nat.mul_comm]; exact Nat.div_add_mod k t.size
      rw [ek] at e
      rw [e] at hc
      simp only [List.getElem_range] at hc
      obtain ⟨y, hy, hyl⟩ := (hV (k / t.size) hk).2.2 (betaA g) (k % t.size) c hc
      refine ⟨y, ?_, hyl⟩
      show cs[off + k]? = some y
      rw [← hy]
      congr 1
      omega
end
section
variable {P : Program} {T : Nat → Option MFun}
theorem law_runA {φ : Nat → Option FuncId} {fuel F f : Nat} {fn : MFun} {args : List AV} {rargs : List Value} {v : AV} {hp : HP} {bf : Nat → Option Blk} {g : Nat → Option Place} (hT : TblOk P T φ drawOk) (hmo : P.follows .mixedOrders = true) (hf : T f = some fn) (hF : φ f = some F) (hfree : fn.nfree = 0)
    (hrun : runFn T fuel f args (HP.args bf) = some (v, hp)) (hlen : args.length = fn.params) (ha : All2 (VR φ (betaA g)) args rargs) (W : World)
    (hB : ∀ n b, bf n = some b → ∃ pl cs T fr, BR φ (betaA g) (fun r => W.heap.size ≤ r) (.arg n) b W pl cs T fr) :
    Calls P F rargs.toArray W fun e W' => (∃ x β', e = .returned x ∧ VR φ β' v x) ∧ Below W.heap.size W W' := by
  unfold runFn at hrun
  rw [hf] at hrun
  simp only at hrun
  cases hr : run T fuel ⟨0, ⟨0, 0⟩⟩ [.code fn.body] (St.enter args (HP.args bf)) with
  | none => simp [hr] at hrun
  | some s2 =>
    simp only [hr, Option.map_eq_some_iff] at hrun
    obtain ⟨v', hv, he⟩ := hrun
    simp at he
    obtain ⟨rfl, _⟩ := he
    have hst : ∀ i b, (HP.args bf).look i = some b → ∃ n, i = .arg n ∧ bf n = some b := by
      intro i b hb
      cases i with
      | stk l t => simp [HP.args, HP.look, Own.get] at hb
      | obj n => simp [HP.args, HP.look] at hb
      | arg n => exact ⟨n, rfl, hb⟩
    have := callSim hT (drawSound hT hmo) fuel ⟨0, ⟨0, 0⟩⟩ fn F args (HP.args bf) s2 v' (betaA g) (fun r => W.heap.size ≤ r) rargs W (hT f fn F hf hF) hr hv (by simp [hlen, hfree]) ha
      ⟨fun i b hb => by obtain ⟨n, rfl, h⟩ := hst i b hb; exact hB n b h, fun i j bi bj pi pj hi hj _ _ _ _ => by
        obtain ⟨n, rfl, _⟩ := hst i bi hi
        obtain ⟨m, rfl, _⟩ := hst j bj hj
        exact ⟨rfl, rfl⟩⟩ (fun i pl h => by cases i <;> simp [betaA] at h <;> trivial) (fun _ _ => rfl) (fun r h => h)
    refine this.mono fun e W' h => ?_
    obtain ⟨x, β', rfl, hvx, _, hA⟩ := h
    exact ⟨⟨x, β', rfl, hvx⟩, hA.same.os, hA.same.tape, hA.same.output, hA.same.size, fun k hk => hA.same.block k hk (by omega)⟩
theorem law_callsS {φ : Nat → Option FuncId} {F f : Nat} {fn : MFun} {bf : Nat → Option Blk} {g : Nat → Option Place} (hT : TblOk P T φ drawOk) (hmo : P.follows .mixedOrders = true) (hf : T f = some fn) (hF : φ f = some F) (hfree : fn.nfree = 0)
    {args : Array Value} {avs : List AV} (W : World) (ha : All2 (VR φ (betaA g)) avs args.toList) (hlen : avs.length = fn.params) (hB : ∀ n b, bf n = some b → ∃ pl cs T fr, BR φ (betaA g) (fun r => W.heap.size ≤ r) (.arg n) b W pl cs T fr)
    (h : Ok T ⟨0, ⟨0, 0⟩⟩ fn (St.enter avs (HP.args bf)) fun v _ => v = .bool true) :
    Calls P F args W fun e W' => e = .returned (.bool true) ∧ Below W.heap.size W W' := by
  obtain ⟨n, s', v, hr, hv, rfl⟩ := h
  have hr' : runFn T n f avs (HP.args bf) = some (.bool true, s'.hp) := by simp only [runFn, hf, hr, hv]; rfl
  have := law_runA hT hmo hf hF hfree hr' hlen ha W hB
  rw [Array.toArray_toList] at this
  refine this.mono fun e W' h => ⟨?_, h.2⟩
  obtain ⟨⟨x, β', rfl, hv⟩, _⟩ := h
  simp [VR, VR1, AV.isAgg, LR, AV.rel] at hv
  rw [hv]
end
end Go.Mini

namespace Go.Mini
open Go.RowKit Go.ChangeShapes
set_option linter.unusedVariables false
set_option linter.unusedSimpArgs false
theorem dec_step {v : AV} (h : tStep.fits v = true) : ∃ x : SStep, v = x.enc := by
  obtain ⟨a, v, rfl, ha, h⟩ := dec_cons h
  obtain ⟨b, v, rfl, hb, h⟩ := dec_cons h
  obtain ⟨c, v, rfl, hc, h⟩ := dec_cons h
  obtain ⟨d, v, rfl, hd, h⟩ := dec_cons h
  obtain ⟨e, v, rfl, he, h⟩ := dec_cons h
  obtain ⟨f, v, rfl, hf, h⟩ := dec_cons h
  obtain ⟨g, v, rfl, hg, h⟩ := dec_cons h
  obtain rfl := dec_unit h
  obtain ⟨a, rfl⟩ := dec_int ha
  obtain ⟨b, rfl⟩ := dec_int hb
  obtain ⟨c, rfl⟩ := dec_int hc
  obtain ⟨d, rfl⟩ := dec_int hd
  obtain ⟨e, rfl⟩ := dec_str he
  obtain ⟨f, rfl⟩ := dec_str hf
  obtain ⟨g, rfl⟩ := dec_str hg
  exact ⟨⟨a, b, c, d, e, f, g⟩, rfl⟩
theorem dec_list {α : Type} {t : Ty} {f : α → AV} (hd : ∀ v, t.fits v = true → ∃ a, v = f a) : ∀ l : List AV, (∀ v ∈ l, t.fits v = true) → ∃ L : List α, l = L.map f
  | [], _ => ⟨[], rfl⟩
  | v :: l, h => by
    obtain ⟨a, rfl⟩ := hd v (h v List.mem_cons_self)
    obtain ⟨L, rfl⟩ := dec_list hd l fun w hw => h w (List.mem_cons_of_mem _ hw)
    exact ⟨a :: L, rfl⟩
theorem i64max : IntKind.i64.max = 9223372036854775807 := by decide
theorem step_ranged {x : SStep} (h : x.enc.ranged) : x.ok := by
  obtain ⟨_, _, _, _, h5, h6, h7, _⟩ := h
  have e := i64max
  refine ⟨?_, ?_, ?_⟩
  · have : ((ByteArray.size x.name : Nat) : Int) ≤ IntKind.i64.max := h5
    omega
  · have : ((ByteArray.size x.to : Nat) : Int) ≤ IntKind.i64.max := h6
    omega
  · have : ((ByteArray.size x.text : Nat) : Int) ≤ IntKind.i64.max := h7
    omega
section
variable {H : Type} {enc : TypeId × Value → H} {P : Program} {w : World} {φ : Nat → Option FuncId}
theorem given_steps {U e : TypeId} {r : Reach} {b : Nat} {x : Value} {d : DataW H} {ps : List MemPlace} (hu : P.underlying U = some (.slice e)) (hk : elemOk P tStep.kinds e = true) (hs : P.cellsOf e = tStep.size)
    (hok : Value.okWide P w r b U x) (h : DataW.Trod enc P w 0 (fun _ => true) true U x d ps) (n : Nat) :
    ∃ (L : List SStep) (v : AV) (bf : Option Blk) (pl : Option Place), (∀ k, (stp L k).ok) ∧ (∀ g : Nat → Option Place, g n = pl → VR φ (betaA g) v x) ∧
      (∀ (g : Nat → Option Place) (O : Nat → Prop) (b : Blk), g n = pl → bf = some b → ∃ pl' cs T fr, BR φ (betaA g) O (.arg n) b w pl' cs T fr) ∧ (∀ h : HP, h.arg n = bf → StepsV h v L) := by
  obtain ⟨l, hl, hc⟩ := given_slice (φ := φ) (t := tStep) hu hk hs (by decide) hok h
  obtain ⟨L, rfl⟩ := dec_list (fun _ => dec_step) l fun v hv => (hl v hv).1
  have hokL : ∀ k, (stp L k).ok := by
    intro k
    by_cases hk : k < L.length
    · have : stp L k = L[k] := by simp [stp, hk]
      rw [this]
      exact step_ranged (hl _ (List.mem_map.2 ⟨_, List.getElem_mem hk, rfl⟩)).2
    · have : stp L k = ⟨0, 0, 0, 0, ⟨#[]⟩, ⟨#[]⟩, ⟨#[]⟩⟩ := by simp only [stp]; rw [List.getD_eq_getElem?_getD, List.getElem?_eq_none (by omega)]; rfl
      rw [this]
      exact ⟨Nat.zero_le _, Nat.zero_le _, Nat.zero_le _⟩
  rcases hc with ⟨h0, hx⟩ | ⟨pl, hp⟩
  · have hL : L = [] := by simpa using h0
    subst hL
    rcases hx with rfl | ⟨a, cap, rfl⟩
    · exact ⟨[], .nilsl, none, none, hokL, fun g _ => by simp [VR, VR1, AV.isAgg, LR, AV.rel], fun _ _ b _ hb => by simp at hb, fun h _ => ⟨rfl, fun _ _ => rfl, fun _ _ => rfl, fun k hk => by simp at hk⟩⟩
    · exact ⟨[], .slz, none, none, hokL, fun g _ => by simp [VR, VR1, AV.isAgg, LR, AV.rel], fun _ _ b _ hb => by simp at hb, fun h _ => ⟨rfl, fun _ _ => rfl, fun _ _ => rfl, fun k hk => by simp at hk⟩⟩
  · have hlen : (L.map SStep.enc).length = L.length := List.length_map ..
    refine ⟨L, .sl (.arg n) 0 L.length, some ⟨.arr L.length tStep, encSteps L⟩, some pl, hokL, fun g hg => ?_, fun g O b hg hb => ?_, fun h hh => ⟨rfl, fun a b => fg_args n a b _ _, fun a b => leads_args n a b _ _, fun k hk => ⟨n, rfl, ?_⟩⟩⟩
    · have := hp.val g n hg
      rwa [hlen] at this
    · simp only [Option.some.injEq] at hb
      subst hb
      obtain ⟨cs, T, fr, hB⟩ := hp.blk g O n hg
      rw [hlen] at hB
      exact ⟨pl, cs, T, fr, hB⟩
    · simp only [HP.look]; exact hh
end
section
variable {P : Program} {φ : Nat → Option FuncId} {β : Beta} {W : World} {r : Reach} {b : Nat} {x : Value} {U : TypeId}
theorem given_intB (hk : kindOf (P.underlying U) = some (.int .i64)) (h : Value.okWide P W r b U x) : ∃ n, VR φ β (.int .i64 n) x := by
  obtain ⟨v, h1, _, h3⟩ := given_leaf (φ := φ) (β := β) hk h
  obtain ⟨n, rfl⟩ := dec_int h1
  exact ⟨n, h3⟩
theorem given_strB (hk : kindOf (P.underlying U) = some .str) (h : Value.okWide P W r b U x) : ∃ n : Str, n.size ≤ 9223372036854775807 ∧ VR φ β (.str n) x := by
  obtain ⟨v, h1, h2, h3⟩ := given_leaf (φ := φ) (β := β) hk h
  obtain ⟨n, rfl⟩ := dec_str h1
  have e := i64max
  have : ((ByteArray.size n : Nat) : Int) ≤ IntKind.i64.max := h2
  exact ⟨n, by omega, h3⟩
theorem given_imgB {ts : List TypeId} (hts : P.cellTypes P.depth U = some ts) (hk : (ts.map fun u => kindOf (P.underlying u)) = tImage.kinds.map some) (hu : ∃ fs, P.underlying U = some (.struct fs)) (hc : P.cellsOf U = tImage.kinds.length)
    (h : Value.okWide P W r b U x) : ∃ m : Img, VR φ β m.enc x := by
  obtain ⟨v, h1, _, h3⟩ := given_agg (φ := φ) (β := β) hts hk rfl (.inl hu) hc h
  obtain ⟨n, rfl⟩ := dec_img h1
  exact ⟨n, h3⟩
theorem given_stepB {ts : List TypeId} (hts : P.cellTypes P.depth U = some ts) (hk : (ts.map fun u => kindOf (P.underlying u)) = tStep.kinds.map some) (hu : ∃ fs, P.underlying U = some (.struct fs)) (hc : P.cellsOf U = tStep.kinds.length)
    (h : Value.okWide P W r b U x) : ∃ m : SStep, m.ok ∧ VR φ β m.enc x := by
  obtain ⟨v, h1, h2, h3⟩ := given_agg (φ := φ) (β := β) hts hk rfl (.inl hu) hc h
  obtain ⟨n, rfl⟩ := dec_step h1
  exact ⟨n, step_ranged h2, h3⟩
end
theorem lets_top' : ∀ n, (⟨0, ⟨0, 0⟩⟩ : Cx).prot.lets (.obj n) = true := fun n => decide_eq_true (Nat.zero_le n)
def one1 {α : Type} (a : Option α) : Nat → Option α := fun n => if n = 0 then a else none
def two2 {α : Type} (a b : Option α) : Nat → Option α := fun n => if n = 0 then a else if n = 1 then b else none
end Go.Mini

namespace Go.Mini
set_option linter.unusedSimpArgs false
set_option linter.unusedVariables false
set_option maxHeartbeats 4000000
set_option maxRecDepth 100000
@[go_sem] theorem fill_stepD (k : Int) (s t : Str) : fill tStep tStep.zero [(0, .int .i64 k), (4, .str s), (6, .str t)] = some (SStep.enc ⟨k, 0, 0, 0, s, ⟨#[]⟩, t⟩) := rfl
@[go_sem] theorem fill_stepE (k d : Int) (s t : Str) : fill tStep tStep.zero [(0, .int .i64 k), (4, .str s), (2, .int .i64 d), (5, .str t)] = some (SStep.enc ⟨k, 0, d, 0, s, t, ⟨#[]⟩⟩) := rfl
def HF (h : HP) (F : Fl) : HP := (h.nw tCache (encC F.now F.disk)).nw tFiles (encF h.next F.stamp)
section
variable {cx : Cx} {h : HP} {F : Fl}
theorem HF_F : (HF h F).look (.obj (h.next + 1)) = some ⟨tFiles, encF h.next F.stamp⟩ := look_nn1
theorem HF_C : (HF h F).look (.obj h.next) = some ⟨tCache, encC F.now F.disk⟩ := look_nn0
theorem HF_set {a b : Img} {s : Int} : ((HF h F).ob (h.next + 1) tFiles (encF h.next s)).ob h.next tCache (encC a b) = HF h ⟨a, b, s⟩ := by
  simp only [HF, HP.nw, HP.ob, HP.set, HP.mk.injEq, true_and, and_true]
  funext k
  by_cases h1 : k = h.next
  · subst h1; simp
  · by_cases h2 : k = h.next + 1 <;> simp [h1, h2]
theorem HF_fr : Fr h (HF h F) [] := Fr.nw.trans Fr.nw
theorem Do_HF {x : SStep} (hl : ∀ n, cx.prot.lets (.obj n) = true) (hw : WF F.now) (hx : x.ok) :
    Ok tblE cx Fn.soft_Files_Do (St.enter [.ptr (.obj (h.next + 1)) [] tFiles, x.enc] (HF h F)) fun v h' => v = .int .i64 (doC F x) ∧ h' = HF h (doF F x) := by
  refine (Do_ok hl HF_F HF_C (by omega) hw hx.name hx.to hx.text).mono fun v h' e => ?_
  refine ⟨e.1, ?_⟩
  rw [e.2, HF_set]
  have := doF_disk F x
  generalize doF F x = G at this ⊢
  cases G
  simp only at this
  subst this
  rfl
end
def fb0 : Fl := ⟨.blank, .blank, 0⟩
def sFx : SStep := ⟨5, 0, 0, 0, ⟨#[97]⟩, ⟨#[]⟩, ⟨#[120]⟩⟩
def sFl : SStep := ⟨2, 0, 2, 0, ⟨#[97]⟩, ⟨#[98]⟩, ⟨#[]⟩⟩
def fb1 : Fl := doF fb0 sA
def fb2 : Fl := doF fb1 sFx
def fb3 : Fl := doF fb2 sFl
theorem fbA : doC fb0 sA = 0 := by decide +kernel
theorem fbB : doC fb1 sFx = 0 := by decide +kernel
theorem fbC : doC fb2 sFl = 0 := by decide +kernel
theorem fbW0 : WF fb0.now := WF_check (by decide +kernel)
theorem fbW1 : WF fb1.now := WF_check (by decide +kernel)
theorem fbW2 : WF fb2.now := WF_check (by decide +kernel)
theorem fbW3 : WF fb3.now := WF_check (by decide +kernel)
theorem fbR : readT fb3.now 2 ⟨#[98]⟩ 0 = ⟨#[120]⟩ ∧ readB fb3.now 2 ⟨#[98]⟩ 0 = true ∧ readC fb3.now 2 ⟨#[98]⟩ 0 = 0 := by decide +kernel
theorem fbS : sameB fb3.now 0 ⟨#[97]⟩ 2 ⟨#[98]⟩ = true := by decide +kernel
theorem fbU : sureB fb3.now fb3.disk 0 ⟨#[97]⟩ = false := by decide +kernel
theorem fbK : (fb3.now.ino 0).links = 2 := by decide +kernel
theorem fbL : listOf fb3.now 2 = [⟨#[98]⟩] := by
  have : namesL fb3.now 2 4 = [⟨#[98]⟩] := by decide +kernel
  show (if (2 : Int) < 0 ∨ (3 : Int) ≤ 2 then [] else sortS (namesL fb3.now (2 : Int).toNat 4)) = _
  rw [if_neg (by omega)]
  show sortS (namesL fb3.now 2 4) = _
  rw [this]
  simp [sortS]
section
variable {cx : Cx} {h : HP}
theorem softBegun_ok (hl : ∀ n, cx.prot.lets (.obj n) = true) : Ok tblE cx Fn.eiderdownlaw_softBegun (St.enter [] h) fun v h' => Fr h h' [] ∧ v = .bool true := by
  rw [Ok_eq]
  simp (config := { maxSteps := 1000000 }) (disch := omega) only [go_sem]
  refine W_callh (v := .ptr (.obj (h.next + 1)) [] tFiles) (HF h fb0) rfl ⟨rfl, rfl⟩ rfl (by simp only [go_sem]; exact SNew_ok) ?_
  simp (config := { maxSteps := 1000000 }) (disch := omega) only [go_sem]
  refine W_callp rfl ⟨rfl, rfl⟩ (by simp only [go_sem]; exact SOf_no (m := Img.zero) zero_small (by rw [cb11]; decide)) ?_
  simp (config := { maxSteps := 1000000 }) (disch := omega) only [go_sem]
  refine W_callh (v := .int .i64 (doC fb0 sA)) (HF h fb1) rfl ⟨rfl, rfl⟩ rfl (by simp only [go_sem]; exact Do_HF (h := h.push cx.lvl []) (F := fb0) (x := sA) (by exact hl) fbW0 (stepOk_short (by decide))) ?_
  rw [fbA]
  simp (config := { maxSteps := 1000000 }) (disch := omega) only [go_sem]
  refine W_callh (v := .int .i64 (doC fb1 sFx)) (HF h fb2) rfl ⟨rfl, rfl⟩ rfl (by simp only [go_sem]; exact Do_HF (h := h.push cx.lvl []) (F := fb1) (x := sFx) (by exact hl) fbW1 ⟨by decide, by decide, by decide⟩) ?_
  rw [fbB]
  simp (config := { maxSteps := 1000000 }) (disch := omega) only [go_sem]
  refine W_callh (v := .int .i64 (doC fb2 sFl)) (HF h fb3) rfl ⟨rfl, rfl⟩ rfl (by simp only [go_sem]; exact Do_HF (h := h.push cx.lvl []) (F := fb2) (x := sFl) (by exact hl) fbW2 ⟨by decide, by decide, by decide⟩) ?_
  rw [fbC]
  simp (config := { maxSteps := 1000000 }) (disch := omega) only [go_sem]
  refine W_callp rfl ⟨rfl, rfl⟩ (by simp only [go_sem]; exact Read_ok (h := (HF h fb3).push cx.lvl []) (f := h.next + 1) (c := h.next) (a := fb3.now) (b := fb3.disk) (st := fb3.stamp) HF_F HF_C fbW3 (by decide)) ?_
  rw [fbR.1, fbR.2.1, fbR.2.2]
  simp (config := { maxSteps := 1000000 }) (disch := omega) only [go_sem, encR]
  refine W_callp rfl ⟨rfl, rfl⟩ (by simp only [go_sem]; exact Same_ok (h := (HF h fb3).push cx.lvl []) (f := h.next + 1) (c := h.next) (a := fb3.now) (b := fb3.disk) (st := fb3.stamp) HF_F HF_C) ?_
  rw [fbS]
  simp (config := { maxSteps := 1000000 }) (disch := omega) only [go_sem]
  refine W_callp rfl ⟨rfl, rfl⟩ (by simp only [go_sem]; exact Sure_ok (h := (HF h fb3).push cx.lvl []) (f := h.next + 1) (c := h.next) (a := fb3.now) (b := fb3.disk) (st := fb3.stamp) HF_F HF_C) ?_
  rw [fbU]
  simp (config := { maxSteps := 1000000 }) (disch := omega) only [go_sem]
  refine W_callF (S := []) (R := fun v h' => SlF (HF h fb3) h' v (listOf fb3.now 2)) rfl ⟨rfl, rfl⟩ (by simp only [go_sem]; exact List_ok (h := (HF h fb3).push cx.lvl []) (f := h.next + 1) (c := h.next) (a := fb3.now) (b := fb3.disk) (st := fb3.stamp) (by exact hl) HF_F HF_C) (fun v h1 e => e) ?_
  rintro v h7 hF7 hs
  rw [fbL] at hs
  have hlv : fg v (.stk cx.lvl 64) = v := by
    rcases hs with ⟨rfl, _⟩ | ⟨q, rfl, _⟩ <;> simp only [go_sem]
  simp (config := { maxSteps := 1000000 }) (disch := omega) only [go_sem, hlv]
  refine W_callp rfl ⟨rfl, rfl⟩ (by simp only [go_sem]; exact SameTexts_ok (m := [⟨#[98]⟩]) hs.xp (.inr ⟨_, rfl, below_stk _ _, by simp only [HP.push_look_own, go_sem]; rfl⟩) (by decide)) ?_
  have f7 : h7.look (.obj (h.next + 1)) = some ⟨tFiles, encF h.next fb3.stamp⟩ := hF7.look (by show h.next + 1 < h.next + 1 + 1; omega) (by simp) HF_F
  have c7 : h7.look (.obj h.next) = some ⟨tCache, encC fb3.now fb3.disk⟩ := hF7.look (by show h.next < h.next + 1 + 1; omega) (by simp) HF_C
  simp (config := { maxSteps := 1000000 }) (disch := omega) only [go_sem, f7, c7, fbK]
  exact HF_fr.trans hF7
end
end Go.Mini

namespace Go.Mini
set_option linter.unusedSimpArgs false
set_option linter.unusedVariables false
set_option maxHeartbeats 4000000
set_option maxRecDepth 100000
structure FilAt (h : HP) (f c : Nat) (F : Fl) : Prop where
  fi : h.look (.obj f) = some ⟨tFiles, encF c F.stamp⟩
  ca : h.look (.obj c) = some ⟨tCache, encC F.now F.disk⟩
  fc : ¬f = c
  fn : f < h.next
  cn : c < h.next
theorem FilAt.push {h : HP} {f c l : Nat} {o : Own} {F : Fl} (a : FilAt h f c F) : FilAt (h.push l o) f c F := ⟨a.fi, a.ca, a.fc, a.fn, a.cn⟩
theorem FilAt.pop {h : HP} {f c l : Nat} {o : Own} {F : Fl} (a : FilAt (h.push l o) f c F) : FilAt h f c F := ⟨a.fi, a.ca, a.fc, a.fn, a.cn⟩
theorem FilAt.same {h h' : HP} {f c : Nat} {F : Fl} {S : List Nat} (a : FilAt h f c F) (b : Fr h h' S) (hf : f ∉ S) (hc : c ∉ S) : FilAt h' f c F :=
  ⟨b.look a.fn hf a.fi, b.look a.cn hc a.ca, a.fc, Nat.lt_of_lt_of_le a.fn b.next, Nat.lt_of_lt_of_le a.cn b.next⟩
def softF (F : Fl) (x : SStep) : Fl :=
  if x.kind = 7 then { F with disk := (writeAs F.now F.disk x.p).1 } else
  if x.kind = 8 then { F with disk := syncTo F.now F.disk } else
  if x.kind = 9 then F else doF F x
def softC (F G : Fl) (x : SStep) : Bool :=
  if x.kind = 7 then decide ((writeAs F.now F.disk x.p).2 = (writeAs G.now G.disk x.p).2) else
  if x.kind = 8 then decide (syncK F.now F.disk = syncK G.now G.disk) else
  if x.kind = 9 then true else decide (doC F x = doC G x)
def softB (B : Bd) (x : SStep) : Bd := { B with now := (softF B.fl x).now, disk := (softF B.fl x).disk, stamp := (softF B.fl x).stamp }
section
variable {cx : Cx} {h : HP} {f c e : Nat} {F : Fl} {B : Bd}
theorem SoftStep_ok {x : SStep} (hl : ∀ n, cx.prot.lets (.obj n) = true) (hA : FilAt h f c F) (hB : h.look (.obj e) = some ⟨tBed, B.enc⟩) (hef : ¬e = f) (hec : ¬e = c) (en : e < h.next) (hw : WF F.now) (hwB : WF B.now) (hx : x.ok) :
    Ok tblE cx Fn.eiderdownlaw_softStep (St.enter [.ptr (.obj f) [] tFiles, .ptr (.obj e) [] tBed, x.enc] h) fun v h' =>
      Fr h h' [f, c, e] ∧ v = .bool (softC F B.fl x) ∧ FilAt h' f c (softF F x) ∧ h'.look (.obj e) = some ⟨tBed, (softB B x).enc⟩ := by
  obtain ⟨fi, ca, fc, fn, cn⟩ := id hA
  have hce : ¬c = e := fun h => hec h.symm
  have hfe : ¬f = e := fun h => hef h.symm
  have hcf : ¬c = f := fun h => fc h.symm
  rw [Ok_eq]
  simp (config := { maxSteps := 1000000 }) (disch := omega) only [go_sem]
  by_cases c7 : x.kind = 7
  · have e7 : softF F x = { F with disk := (writeAs F.now F.disk x.p).1 } := by simp [softF, c7]
    have b7 : softB B x = { B with disk := (writeAs B.now B.disk x.p).1 } := by simp only [softB, softF, c7, if_true]; rfl
    have w7 : softC F B.fl x = decide ((writeAs F.now F.disk x.p).2 = (writeAs B.now B.disk x.p).2) := by simp only [softC, c7, if_true]; exact decide_eq_decide.2 Iff.rfl
    simp (config := { maxSteps := 1000000 }) (disch := omega) only [go_sem, c7, fi]
    refine W_callS (v := .bool (writeAs F.now F.disk x.p).2) (h.ob c tCache (encC F.now (writeAs F.now F.disk x.p).1)) rfl ⟨rfl, rfl⟩ rfl (by simp only [go_sem]; exact eWrite (fun n => hl n) (by simp only [go_sem, ca])) ?_
    simp (config := { maxSteps := 1000000 }) (disch := omega) only [go_sem]
    refine W_callh (v := .bool (writeAs B.now B.disk x.p).2) ((h.ob c tCache (encC F.now (writeAs F.now F.disk x.p).1)).ob e tBed (Bd.enc { B with disk := (writeAs B.now B.disk x.p).1 })) rfl ⟨rfl, rfl⟩ rfl (by simp only [go_sem]; exact rWrite_ok (B := B) (by exact hl) (by simp only [go_sem, look_ob_ne hec, hB])) ?_
    simp (config := { maxSteps := 1000000 }) (disch := omega) only [go_sem]
    rw [e7, b7, w7]
    refine ⟨(Fr.ob (by simp)).trans (Fr.ob (by simp)), rfl, ⟨?_, ?_, fc, fn, cn⟩, by first | rfl | exact look_ob⟩
    · rw [look_ob_ne hfe, look_ob_ne fc]; exact fi
    · rw [look_ob_ne hce, look_ob]
  by_cases c8 : x.kind = 8
  · have e7 : softF F x = { F with disk := syncTo F.now F.disk } := by simp [softF, c8]
    have b7 : softB B x = { B with disk := syncTo B.now B.disk } := by simp only [softB, softF, c8, if_true]; rfl
    have w7 : softC F B.fl x = decide (syncK F.now F.disk = syncK B.now B.disk) := by
      unfold softC
      rw [if_neg c7, if_pos c8]
      exact decide_eq_decide.2 Iff.rfl
    simp (config := { maxSteps := 1000000 }) (disch := omega) only [go_sem, c7, c8, fi]
    refine W_callh (v := .int .i64 (syncK F.now F.disk)) (h.ob c tCache (encC F.now (syncTo F.now F.disk))) rfl ⟨rfl, rfl⟩ rfl (by simp only [go_sem]; exact eSync (by exact hl) (by simp only [go_sem, ca])) ?_
    simp (config := { maxSteps := 1000000 }) (disch := omega) only [go_sem]
    refine W_callh (v := .int .i64 (syncK B.now B.disk)) ((h.ob c tCache (encC F.now (syncTo F.now F.disk))).ob e tBed (Bd.enc { B with disk := syncTo B.now B.disk })) rfl ⟨rfl, rfl⟩ rfl (by simp only [go_sem]; exact rSync_E (B := B) (by exact hl) (by simp only [go_sem, look_ob_ne hec, hB])) ?_
    simp (config := { maxSteps := 1000000 }) (disch := omega) only [go_sem]
    rw [e7, b7, w7]
    refine ⟨(Fr.ob (by simp)).trans (Fr.ob (by simp)), ?_, ⟨?_, ?_, fc, fn, cn⟩, by first | rfl | exact look_ob⟩
    · congr 1; exact decide_eq_decide.2 (by omega)
    · rw [look_ob_ne hfe, look_ob_ne fc]; exact fi
    · rw [look_ob_ne hce, look_ob]
  by_cases c9 : x.kind = 9
  · have e7 : softF F x = F := by simp [softF, c9]
    have b7 : softB B x = B := by simp [softB, softF, c9, Bd.fl]
    have w7 : softC F B.fl x = true := by simp [softC, c9]
    simp (config := { maxSteps := 1000000 }) (disch := omega) only [go_sem, c7, c8, c9]
    rw [e7, b7, w7]
    exact ⟨Fr.refl _ _, rfl, hA, hB⟩
  · have e7 : softF F x = doF F x := by simp [softF, c7, c8, c9]
    have b7 : softB B x = { B with now := (doF B.fl x).now, stamp := (doF B.fl x).stamp } := by
      have := doF_disk B.fl x
      simp [softB, softF, c7, c8, c9, this]
      rfl
    have w7 : softC F B.fl x = decide (doC F x = doC B.fl x) := by simp [softC, c7, c8, c9]
    simp (config := { maxSteps := 1000000 }) (disch := omega) only [go_sem, c7, c8, c9]
    refine W_callS (v := .int .i64 (doC F x)) ((h.ob f tFiles (encF c (doF F x).stamp)).ob c tCache (encC (doF F x).now F.disk)) rfl ⟨rfl, rfl⟩ rfl (by simp only [go_sem]; exact Do_ok (fun n => hl n) (by simp only [go_sem, fi]) (by simp only [go_sem, ca]) fc hw hx.name hx.to hx.text) ?_
    simp (config := { maxSteps := 1000000 }) (disch := omega) only [go_sem]
    refine W_callh (v := .int .i64 (doC B.fl x)) (((h.ob f tFiles (encF c (doF F x).stamp)).ob c tCache (encC (doF F x).now F.disk)).ob e tBed (Bd.enc { B with now := (doF B.fl x).now, stamp := (doF B.fl x).stamp })) rfl ⟨rfl, rfl⟩ rfl (by simp only [go_sem]; exact Files0_ok (B := B) (by exact hl) (by simp only [go_sem, look_ob_ne hec, look_ob_ne hef, hB]) hwB hx.name hx.to hx.text) ?_
    simp (config := { maxSteps := 1000000 }) (disch := omega) only [go_sem]
    rw [e7, b7, w7]
    refine ⟨((Fr.ob (by simp)).trans (Fr.ob (by simp))).trans (Fr.ob (by simp)), rfl, ⟨?_, ?_, fc, fn, cn⟩, by first | rfl | exact look_ob⟩
    · rw [look_ob_ne hfe, look_ob_ne fc, look_ob]
    · rw [look_ob_ne hce, look_ob, doF_disk]
end
end Go.Mini

namespace Go.Mini
set_option linter.unusedSimpArgs false
set_option linter.unusedVariables false
set_option maxHeartbeats 4000000
set_option maxRecDepth 100000
def FilN (h0 h : HP) (f : Nat) (F : Fl) : Prop := ∃ c, FilAt h f c F ∧ (h0.next ≤ f ∧ h0.next ≤ c) ∧ Fr h0 h []
theorem FilN.same {h0 h1 h2 : HP} {f : Nat} {F : Fl} (a : FilN h0 h1 f F) (b : Fr h1 h2 []) : FilN h0 h2 f F := by
  obtain ⟨c, hA, hb, hF⟩ := a
  exact ⟨c, hA.same b (by simp) (by simp), hb, hF.trans b⟩
theorem FilN.stk {h0 h1 : HP} {f : Nat} {F : Fl} (a : FilN h0 h1 f F) : h1.stk = h0.stk := by obtain ⟨_, _, _, hF⟩ := a; exact hF.stk
theorem FilN.arg {h0 h1 : HP} {f : Nat} {F : Fl} (a : FilN h0 h1 f F) : h1.arg = h0.arg := by obtain ⟨_, _, _, hF⟩ := a; exact hF.arg
theorem FilN.new {h : HP} : FilN h (HF h fb0) (h.next + 1) fb0 :=
  ⟨h.next, ⟨HF_F, HF_C, by omega, by show h.next + 1 < h.next + 1 + 1; omega, by show h.next < h.next + 1 + 1; omega⟩, ⟨by omega, by omega⟩, HF_fr⟩
def softRun (F : Fl) (l : List SStep) : Nat → Fl
  | 0 => F
  | k + 1 => softF (softRun F l k) (stp l k)
theorem softF_life (F : Fl) (x : SStep) (h : ¬x.kind = 9) : softF F x = (lifeF ⟨F, 0, 0, 0, 0⟩ x).fl := by
  unfold softF lifeF
  by_cases c7 : x.kind = 7
  · rw [if_pos c7, if_pos c7]
  · rw [if_neg c7, if_neg c7]
    by_cases c8 : x.kind = 8
    · rw [if_pos c8, if_pos c8]
    · rw [if_neg c8, if_neg c8, if_neg h, if_neg h]
theorem Inv.softF {F : Fl} (h : Inv F) (hs : F.stamp < 4611686018427387904) (x : SStep) : Inv (softF F x) ∧ (Go.Mini.softF F x).stamp ≤ F.stamp + 1 := by
  by_cases c9 : x.kind = 9
  · have : Go.Mini.softF F x = F := by simp [Go.Mini.softF, c9]
    rw [this]; exact ⟨h, by omega⟩
  · rw [softF_life F x c9]
    exact Inv.lifeF (L := ⟨F, 0, 0, 0, 0⟩) h hs x
theorem inv_soft {F : Fl} (l : List SStep) (h : Inv F) (hs : F.stamp ≤ 1000000000) : ∀ k, k ≤ 1000000000 → Inv (softRun F l k) ∧ (softRun F l k).stamp ≤ 1000000000 + k
  | 0, _ => ⟨h, by show F.stamp ≤ _; omega⟩
  | k + 1, hk => by
    obtain ⟨a, b⟩ := inv_soft l h hs k (by omega)
    obtain ⟨c, d⟩ := a.softF (by omega) (stp l k)
    exact ⟨c, by show (Go.Mini.softF (softRun F l k) (stp l k)).stamp ≤ _; omega⟩
theorem W_softStep {cx : Cx} {k : List Item} {kill : List Nat} {r : List MOp} {sl : Slots} {own : Own} {h h0 : HP} {Q : St → Prop} {F : Fl} {B : Bd} {x : SStep} {fi f e : Nat} {args : List Opd} {d : Option Nat}
    (hl : ∀ n, cx.prot.lets (.obj n) = true) (hf : tblE fi = some Fn.eiderdownlaw_softStep) (ha : args.map (St.opd ⟨sl, own, h⟩) = [.ptr (.obj f) [] tFiles, .ptr (.obj e) [] tBed, x.enc])
    (hN : FilN h0 h f F) (hB : h.look (.obj e) = some ⟨tBed, B.enc⟩) (he : h0.next ≤ e) (en : e < h.next) (hw : WF F.now) (hwB : WF B.now) (hx : x.ok)
    (hq : ∀ h1, FilN h0 h1 f (softF F x) → h1.look (.obj e) = some ⟨tBed, (softB B x).enc⟩ → h.next ≤ h1.next → W tblE cx (.ops r kill :: k) (St.setd ⟨sl, own, h1⟩ d (.bool (softC F B.fl x))) Q) :
    W tblE cx (.ops (⟨d, .call false [] fi args, none⟩ :: r) kill :: k) ⟨sl, own, h⟩ Q := by
  obtain ⟨c, hA, ⟨b1, b2⟩, hF⟩ := hN
  have hef : ¬e = f := by
    rintro rfl
    have := hA.fi
    rw [hB] at this
    simp at this
    exact absurd this.1 (by decide)
  have hec : ¬e = c := by
    rintro rfl
    have := hA.ca
    rw [hB] at this
    simp at this
    exact absurd this.1 (by decide)
  have hlen : args.length = 3 := by have := congrArg List.length ha; simpa using this
  refine W_callF (S := [f, c, e]) (R := fun v h' => v = .bool (softC F B.fl x) ∧ FilAt h' f c (softF F x) ∧ h'.look (.obj e) = some ⟨tBed, (softB B x).enc⟩) hf ⟨by rw [hlen], rfl⟩ ?_ (fun v h1 a => ⟨a.1, a.2.1.pop, a.2.2⟩) fun v h1 hF1 hR => ?_
  · rw [ha]
    exact SoftStep_ok (by exact hl) hA.push hB hef hec en hw hwB hx
  · obtain ⟨rfl, hA1, hB1⟩ := hR
    exact hq h1 ⟨c, hA1, ⟨b1, b2⟩, hF.since hF1 (by simp; omega)⟩ hB1 hF1.next
theorem FilAt.obs {h : HP} {f c : Nat} {F G : Fl} (a : FilAt h f c F) (e : G.disk = F.disk) : FilAt ((h.ob f tFiles (encF c G.stamp)).ob c tCache (encC G.now F.disk)) f c G :=
  ⟨by rw [look_ob_ne a.fc, look_ob], by rw [look_ob, e], a.fc, a.fn, a.cn⟩
theorem W_filDo {cx : Cx} {k : List Item} {kill : List Nat} {r : List MOp} {sl : Slots} {own : Own} {h h0 : HP} {Q : St → Prop} {F : Fl} {x : SStep} {fi f : Nat} {args : List Opd} {d : Option Nat}
    (hl : ∀ n, cx.prot.lets (.obj n) = true) (hf : tblE fi = some Fn.soft_Files_Do) (ha : args.map (St.opd ⟨sl, own, h⟩) = [.ptr (.obj f) [] tFiles, x.enc])
    (hN : FilN h0 h f F) (hw : WF F.now) (hx : x.ok)
    (hq : ∀ h1, FilN h0 h1 f (doF F x) → h.next ≤ h1.next → W tblE cx (.ops r kill :: k) (St.setd ⟨sl, own, h1⟩ d (.int .i64 (doC F x))) Q) :
    W tblE cx (.ops (⟨d, .call false [] fi args, none⟩ :: r) kill :: k) ⟨sl, own, h⟩ Q := by
  obtain ⟨c, hA, ⟨b1, b2⟩, hF⟩ := hN
  have hlen : args.length = 2 := by have := congrArg List.length ha; simpa using this
  refine W_callF (S := [f, c]) (R := fun v h' => v = .int .i64 (doC F x) ∧ FilAt h' f c (doF F x)) hf ⟨by rw [hlen], rfl⟩ ?_ (fun v h1 a => ⟨a.1, a.2.pop⟩) fun v h1 hF1 hR => ?_
  · rw [ha]
    refine (Do_ok (F := F) (f := f) (c := c) (by exact hl) hA.push.fi hA.push.ca hA.fc hw hx.name hx.to hx.text).mono fun v h' e => ?_
    obtain ⟨rfl, rfl⟩ := e
    exact ⟨(Fr.ob (by simp)).trans (Fr.ob (by simp)), rfl, hA.push.obs (doF_disk F x)⟩
  · obtain ⟨rfl, hA1⟩ := hR
    exact hq h1 ⟨c, hA1, ⟨b1, b2⟩, hF.since hF1 (by simp; omega)⟩ hF1.next
end Go.Mini
