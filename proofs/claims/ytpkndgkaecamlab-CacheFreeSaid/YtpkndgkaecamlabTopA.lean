/- A part of the proof: TopA. -/
import Derived.Test.YtpkndgkaecamlabSwapA
import Derived.Test.YtpkndgkaecamlabMiniE
import Derived.ChangeSame
import Derived.Carry
import Derived.OpenShut
import Derived.ProofKit
import Derived.WalkKit
namespace Go.Mini
open Go.RowKit Go.ChangeShapes
set_option linter.unusedVariables false
section
variable {H : Type} {enc : TypeId × Value → H} {P : Program}
theorem trodAll_stays (hl : laidOutB P = true) {W W' : World} {sp : Nat → Bool} (hB : Below W.heap.size W W') : ∀ {ts : List TypeId} {vs : List Value} {ds : List (DataW H)} {ps : List MemPlace},
    (∀ t ∈ ts, P.readableRec t = true ∧ t < P.types.size) → DataW.TrodAll enc P W 0 (fun _ => true) true ts vs ds ps → (∀ p ∈ ps, p.block < W.heap.size) → (∀ p ∈ ps, sp p.block = true) →
    DataW.TrodAll enc P W' 0 sp true ts vs ds ps
  | [], vs, ds, ps, _, h, _, _ => by
    obtain ⟨rfl, rfl, rfl⟩ := trodAll_nil h
    exact trodAll_mk0
  | t :: ts, vs, ds, ps, ht, h, h1, h2 => by
    obtain ⟨v, vs', d, ds', p, q, rfl, rfl, rfl, h3, h4⟩ := trodAll_cons h
    exact ⟨p, q, WideElems.Trod_stays hl (ht t List.mem_cons_self).1 (ht t List.mem_cons_self).2 h3 (fun x hx => hB.same (h1 x (List.mem_append_left _ hx))) (fun x hx => h2 x (List.mem_append_left _ hx)),
      trodAll_stays hl hB (fun t' ht' => ht t' (List.mem_cons_of_mem _ ht')) h4 (fun x hx => h1 x (List.mem_append_right _ hx)) (fun x hx => h2 x (List.mem_append_right _ hx)), rfl⟩

/-- What a law leaves: true, and its arguments as they were. -/
theorem law_post {f : Func} {s : ChangeSpec} {tb : TypeId} {W W' : World} {args : Array Value} {ds gs : List (DataW H)} {before : List MemPlace} (hl : laidOutB P = true) (hts : ∀ t ∈ f.params.toList, P.readableRec t = true ∧ t < P.types.size)
    (hv : s.vars = []) (hr : f.resultTypes = #[tb]) (hb : P.underlying tb = some .bool)
    (hW : DataW.Whole enc P f.params.toList s.vars false W args.toList ds gs before) (hs : s.fn H ds = { results := [.lit (.bool true)], args := ds }) (hB : Below W.heap.size W W') :
    s.post enc P f false true false false W args (.bool true) W' := by
  have hlt := hW.lt
  obtain ⟨p, q, hA, hV, rfl, hfz, hnd⟩ := id hW
  rw [hv] at hV
  obtain ⟨rfl, rfl⟩ := trodVars_none hV
  refine ⟨ds, [], p ++ [], [], p, [], hW, ?_, ?_, ?_, hB.frame _, fun h => by cases h⟩
  · rw [hr, List.append_nil, hs]
    exact trodAll_cons_mk (shut_bool hb _) trodAll_mk0
  · rw [List.append_nil, hs]
    exact trodAll_stays hl hB hts hA (fun x hx => hlt x (by simpa using hx)) (fun x hx => by simpa using hlt x (by simpa using hx))
  · rw [hv, List.append_nil, hs]
    rfl
end

/-- A law that holds over Mini. -/
theorem runFn_of {T : Nat → Option MFun} {f : Nat} {fn : MFun} {args : List AV} (hf : T f = some fn) (h : Ok T ⟨0, ⟨0, 0⟩⟩ fn (St.enter args HP.empty) fun v h' => v = .bool true ∧ h' = HP.empty) : ∃ n hp, runFn T n f args HP.empty = some (.bool true, hp) := by
  obtain ⟨n, s', v, hr, hv, rfl, _⟩ := h
  exact ⟨n, s'.hp, by simp only [runFn, hf, hr, hv]; rfl⟩

theorem law_calls {P : Program} {T : Nat → Option MFun} {φ : Nat → Option FuncId} {F f : Nat} {fn : MFun} (hT : TblOk P T φ drawOk) (hmo : P.follows .mixedOrders = true) (hf : T f = some fn) (hF : φ f = some F) (hfree : fn.nfree = 0)
    {args : Array Value} {avs : List AV} (ha : All2 (VR φ (fun _ => none)) avs args.toList) (hlen : avs.length = fn.params) (h : Ok T ⟨0, ⟨0, 0⟩⟩ fn (St.enter avs HP.empty) fun v h' => v = .bool true ∧ h' = HP.empty) (W : World) :
    Calls P F args W fun e W' => e = .returned (.bool true) ∧ Below W.heap.size W W' := by
  obtain ⟨n, hp, hr⟩ := runFn_of hf h
  have := law_run hT hmo hf hF hfree hr hlen ha W
  rw [Array.toArray_toList] at this
  refine this.mono fun e W' h => ⟨?_, h.2⟩
  obtain ⟨⟨x, β', rfl, hv⟩, _⟩ := h
  simp [VR, VR1, AV.isAgg, LR, AV.rel] at hv
  rw [hv]

/-! What an argument is. -/
theorem dec_encV {α : Type} {f : α → AV} {t : Ty} {n : Nat} (h : ∀ v, t.fits v = true → ∃ a, v = f a) {v : AV} (hv : (Ty.arr n t).fits v = true) : ∃ w : Vector α n, v = encV f w := by
  cases v with
  | arr k g =>
    simp only [Ty.fits, Bool.and_eq_true, beq_iff_eq, List.all_eq_true] at hv
    obtain ⟨rfl, hg⟩ := hv
    have hc : ∀ i, ∃ a, g i = f a := fun i => h _ (hg i (List.mem_finRange _))
    refine ⟨Vector.ofFn fun i => (hc i).choose, ?_⟩
    simp only [encV]
    congr 1
    funext i
    simp only [Fin.getElem_fin, Vector.getElem_ofFn]
    exact (hc i).choose_spec
  | _ => simp [Ty.fits] at hv
theorem dec_int {v : AV} (h : tI.fits v = true) : ∃ n, v = .int .i64 n := by
  cases v <;> simp [tI, Ty.fits, LK.fits, AV.safe] at h
  subst h; exact ⟨_, rfl⟩
theorem dec_bool {v : AV} (h : tB.fits v = true) : ∃ n, v = .bool n := by
  cases v <;> simp [tB, Ty.fits, LK.fits, AV.safe] at h
  exact ⟨_, rfl⟩
theorem dec_str {v : AV} (h : tS.fits v = true) : ∃ n, v = .str n := by
  cases v <;> simp [tS, Ty.fits, LK.fits, AV.safe] at h
  exact ⟨_, rfl⟩
theorem dec_cons {a b : Ty} {v : AV} (h : (Ty.cons a b).fits v = true) : ∃ x y, v = .cons x y ∧ a.fits x = true ∧ b.fits y = true := by
  cases v <;> simp [Ty.fits] at h
  exact ⟨_, _, rfl, h⟩
theorem dec_unit {v : AV} (h : Ty.unit.fits v = true) : v = .unit := by
  cases v <;> simp [Ty.fits] at h
  rfl
theorem dec_ent {v : AV} (h : tEntry.fits v = true) : ∃ e : Ent, v = e.enc := by
  obtain ⟨a, v, rfl, ha, h⟩ := dec_cons h
  obtain ⟨b, v, rfl, hb, h⟩ := dec_cons h
  obtain ⟨c, v, rfl, hc, h⟩ := dec_cons h
  obtain rfl := dec_unit h
  obtain ⟨a, rfl⟩ := dec_str ha
  obtain ⟨b, rfl⟩ := dec_int hb
  obtain ⟨c, rfl⟩ := dec_int hc
  exact ⟨⟨a, b, c⟩, rfl⟩
theorem dec_dat {v : AV} (h : tData.fits v = true) : ∃ e : Dat, v = e.enc := by
  obtain ⟨a, v, rfl, ha, h⟩ := dec_cons h
  obtain ⟨b, v, rfl, hb, h⟩ := dec_cons h
  obtain rfl := dec_unit h
  obtain ⟨a, rfl⟩ := dec_int ha
  obtain ⟨b, rfl⟩ := dec_str hb
  exact ⟨⟨a, b⟩, rfl⟩
theorem dec_ino {v : AV} (h : tInode.fits v = true) : ∃ e : Ino, v = e.enc := by
  obtain ⟨a, v, rfl, ha, h⟩ := dec_cons h
  obtain ⟨b, v, rfl, hb, h⟩ := dec_cons h
  obtain ⟨c, v, rfl, hc, h⟩ := dec_cons h
  obtain ⟨d, v, rfl, hd, h⟩ := dec_cons h
  obtain rfl := dec_unit h
  obtain ⟨a, rfl⟩ := dec_bool ha
  obtain ⟨b, rfl⟩ := dec_int hb
  obtain ⟨c, rfl⟩ := dec_int hc
  obtain ⟨d, rfl⟩ := dec_encV (f := AV.int .i64) (fun _ => dec_int) hd
  exact ⟨⟨a, b, c, d⟩, rfl⟩
theorem dec_img {v : AV} (h : tImage.fits v = true) : ∃ e : Img, v = e.enc := by
  obtain ⟨a, v, rfl, ha, h⟩ := dec_cons h
  obtain ⟨b, v, rfl, hb, h⟩ := dec_cons h
  obtain ⟨c, v, rfl, hc, h⟩ := dec_cons h
  obtain rfl := dec_unit h
  obtain ⟨a, rfl⟩ := dec_encV (f := Ino.enc) (fun _ => dec_ino) ha
  obtain ⟨b, rfl⟩ := dec_encV (f := encV Ent.enc) (fun _ => dec_encV (f := Ent.enc) fun _ => dec_ent) hb
  obtain ⟨c, rfl⟩ := dec_encV (f := Dat.enc) (fun _ => dec_dat) hc
  exact ⟨⟨a, b, c⟩, rfl⟩

/-! Arguments that were given. -/
section
variable {P : Program} {φ : Nat → Option FuncId} {W : World} {r : Reach} {b : Nat} {x : Value} {U : TypeId}
theorem given_int (hk : kindOf (P.underlying U) = some (.int .i64)) (h : Value.okWide P W r b U x) : ∃ n, VR φ (fun _ => none) (.int .i64 n) x := by
  obtain ⟨v, h1, _, h3⟩ := given_leaf (φ := φ) (β := fun _ => none) hk h
  obtain ⟨n, rfl⟩ := dec_int h1
  exact ⟨n, h3⟩
theorem given_str (hk : kindOf (P.underlying U) = some .str) (h : Value.okWide P W r b U x) : ∃ n, VR φ (fun _ => none) (.str n) x := by
  obtain ⟨v, h1, _, h3⟩ := given_leaf (φ := φ) (β := fun _ => none) hk h
  obtain ⟨n, rfl⟩ := dec_str h1
  exact ⟨n, h3⟩
theorem given_img {ts : List TypeId} (hts : P.cellTypes P.depth U = some ts) (hk : (ts.map fun u => kindOf (P.underlying u)) = tImage.kinds.map some) (hu : ∃ fs, P.underlying U = some (.struct fs)) (hc : P.cellsOf U = tImage.kinds.length)
    (h : Value.okWide P W r b U x) : ∃ m : Img, VR φ (fun _ => none) m.enc x := by
  obtain ⟨v, h1, _, h3⟩ := given_agg (φ := φ) (β := fun _ => none) hts hk rfl (.inl hu) hc h
  obtain ⟨n, rfl⟩ := dec_img h1
  exact ⟨n, h3⟩
end
end Go.Mini
