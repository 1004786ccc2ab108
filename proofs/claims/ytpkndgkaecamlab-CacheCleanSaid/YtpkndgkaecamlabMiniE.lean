/- A part of the proof: MiniE. -/
import Derived.Test.YtpkndgkaecamlabMiniD
import Derived.Test.YtpkndgkaecamlabMiniFn
namespace Go.Mini
set_option linter.unusedSimpArgs false
set_option linter.unusedVariables false

/-! The plain data, and how it lies in memory. -/
abbrev Str := ByteArray
structure Ent where
  name : Str
  ino : Int
  stamp : Int
  deriving DecidableEq
structure Ino where
  live : Bool
  stamp : Int
  links : Int
  part : Vector Int 2
  deriving DecidableEq
structure Dat where
  of : Int
  text : Str
  deriving DecidableEq
structure Img where
  inode : Vector Ino 8
  dir : Vector (Vector Ent 4) 3
  data : Vector Dat 9
  deriving DecidableEq

def encV {α : Type} {n : Nat} (f : α → AV) (v : Vector α n) : AV := .arr n fun i => f v[i]
def setV {α : Type} {n : Nat} (f : α → AV) (v : Vector α n) (i : Nat) (y : AV) : AV := .arr n fun j => if j.val = i then y else f v[j]
def Ent.enc (e : Ent) : AV := .cons (.str e.name) (.cons (.int .i64 e.ino) (.cons (.int .i64 e.stamp) .unit))
def Ino.enc (e : Ino) : AV := .cons (.bool e.live) (.cons (.int .i64 e.stamp) (.cons (.int .i64 e.links) (.cons (encV (AV.int .i64) e.part) .unit)))
def Dat.enc (e : Dat) : AV := .cons (.int .i64 e.of) (.cons (.str e.text) .unit)
def Img.enc (e : Img) : AV := .cons (encV Ino.enc e.inode) (.cons (encV (encV Ent.enc) e.dir) (.cons (encV Dat.enc e.data) .unit))

section
variable {α : Type} {n : Nat} {f : α → AV} {v w : Vector α n}
@[go_sem] theorem at_encV {i : Nat} (h : i < n) (p : List Nat) : (encV f v).at (i :: p) = (f v[i]).at p := by simp [encV, AV.at, h]
@[go_sem] theorem put_encV {i : Nat} (h : i < n) (p : List Nat) (x : AV) : (encV f v).put (i :: p) x = ((f v[i]).put p x).map (setV f v i) := by
  simp [encV, AV.put, h]; rfl
@[go_sem] theorem setV_f {i : Nat} (h : i < n) (y : α) : setV f v i (f y) = encV f (v.set i y) := by
  simp only [setV, encV]
  congr 1; funext j
  simp only [Fin.getElem_fin, Vector.getElem_set]
  by_cases hj : j.val = i
  · simp [hj]
  · have hj' : ¬i = j.val := fun e => hj e.symm
    simp [hj, hj']
@[go_sem] theorem fg_encV (i : Id) : fg (encV f v) i = encV f v := rfl
@[go_sem] theorem leads_encV (i : Id) : (encV f v).leads i = false := rfl
@[go_sem] theorem isAgg_encV : (encV f v).isAgg = true := rfl
theorem fits_encV {t : Ty} (h : ∀ x, t.fits (f x) = true) : (Ty.arr n t).fits (encV f v) = true := by
  simp [encV, Ty.fits, h]
theorem andEq_dec (p q : Prop) [Decidable p] [Decidable q] : andEq (some (decide p)) (some (decide q)) = some (decide (p ∧ q)) := by
  by_cases hp : p <;> simp [hp, andEq]
theorem eq_encV [DecidableEq α] (hf : ∀ x y, (f x).eq (f y) = some (decide (x = y))) : (encV f v).eq (encV f w) = some (decide (v = w)) := by
  simp only [encV, AV.eq, dite_true]
  have key : ∀ l : List (Fin n), l.foldr (fun i acc => andEq ((f v[i]).eq (f w[i])) acc) (some true) = some (decide (∀ i ∈ l, v[i] = w[i])) := by
    intro l
    induction l with
    | nil => simp
    | cons a l ih =>
      rw [List.foldr_cons, ih, hf, andEq_dec]
      congr 1
      rw [decide_eq_decide]
      exact (List.forall_mem_cons (p := fun i => v[i] = w[i])).symm
  refine (key (List.finRange n)).trans ?_
  congr 1
  rw [decide_eq_decide]
  constructor
  · intro h; ext i hi; exact h ⟨i, hi⟩ (List.mem_finRange _)
  · rintro rfl i _; rfl
end

@[go_sem] theorem aidxV_encV {α : Type} {f : α → AV} {n : Nat} {t : Ty} {v : Vector α n} {k : IntKind} {m : Nat} (hm : m < n) : aidxV n t (encV f v) (.int k (m : Int)) = if (Ty.arr n t).fits (encV f v) = true then some (f v[m]) else none := by
  simp only [encV, aidxV, toIx]
  rw [dif_pos ⟨by omega, by omega⟩]
  rfl

/-! Entries, inodes, data, images. -/
@[go_sem] theorem at_ent0 (e : Ent) : e.enc.at [0] = some (.str e.name) := rfl
@[go_sem] theorem at_ent1 (e : Ent) : e.enc.at [1] = some (.int .i64 e.ino) := rfl
@[go_sem] theorem at_ent2 (e : Ent) : e.enc.at [2] = some (.int .i64 e.stamp) := rfl
@[go_sem] theorem at_ino0 (e : Ino) : e.enc.at [0] = some (.bool e.live) := rfl
@[go_sem] theorem at_ino1 (e : Ino) : e.enc.at [1] = some (.int .i64 e.stamp) := rfl
@[go_sem] theorem at_ino2 (e : Ino) : e.enc.at [2] = some (.int .i64 e.links) := rfl
@[go_sem] theorem at_ino3 (e : Ino) (p : List Nat) : e.enc.at (3 :: p) = (encV (AV.int .i64) e.part).at p := rfl
@[go_sem] theorem at_dat0 (e : Dat) : e.enc.at [0] = some (.int .i64 e.of) := rfl
@[go_sem] theorem at_dat1 (e : Dat) : e.enc.at [1] = some (.str e.text) := rfl
@[go_sem] theorem at_img0 (e : Img) (p : List Nat) : e.enc.at (0 :: p) = (encV Ino.enc e.inode).at p := rfl
@[go_sem] theorem at_img1 (e : Img) (p : List Nat) : e.enc.at (1 :: p) = (encV (encV Ent.enc) e.dir).at p := rfl
@[go_sem] theorem at_img2 (e : Img) (p : List Nat) : e.enc.at (2 :: p) = (encV Dat.enc e.data).at p := rfl
@[go_sem] theorem put_ent0 (e : Ent) (s : Str) : e.enc.put [0] (.str s) = some (Ent.enc { e with name := s }) := rfl
@[go_sem] theorem put_ent1 (e : Ent) (n : Int) : e.enc.put [1] (.int .i64 n) = some (Ent.enc { e with ino := n }) := rfl
@[go_sem] theorem put_ent2 (e : Ent) (n : Int) : e.enc.put [2] (.int .i64 n) = some (Ent.enc { e with stamp := n }) := rfl
@[go_sem] theorem put_ino0 (e : Ino) (b : Bool) : e.enc.put [0] (.bool b) = some (Ino.enc { e with live := b }) := rfl
@[go_sem] theorem put_ino1 (e : Ino) (n : Int) : e.enc.put [1] (.int .i64 n) = some (Ino.enc { e with stamp := n }) := rfl
@[go_sem] theorem put_ino2 (e : Ino) (n : Int) : e.enc.put [2] (.int .i64 n) = some (Ino.enc { e with links := n }) := rfl
@[go_sem] theorem put_ino3 (e : Ino) {i : Nat} (h : i < 2) (n : Int) : e.enc.put [3, i] (.int .i64 n) = some (Ino.enc { e with part := e.part.set i n }) := by
  have key : (encV (AV.int .i64) e.part).put [i] (.int .i64 n) = some (encV (AV.int .i64) (e.part.set i n)) := by
    rw [put_encV h, put_nil, Option.map_some, setV_f h]
  show ((((((encV (AV.int .i64) e.part).put [i] (.int .i64 n)).map fun y => AV.cons y .unit).map fun y => AV.cons (.int .i64 e.links) y).map fun y => AV.cons (.int .i64 e.stamp) y).map fun y => AV.cons (.bool e.live) y) = _
  rw [key]; rfl
@[go_sem] theorem put_dat0 (e : Dat) (n : Int) : e.enc.put [0] (.int .i64 n) = some (Dat.enc { e with of := n }) := rfl
@[go_sem] theorem put_dat1 (e : Dat) (s : Str) : e.enc.put [1] (.str s) = some (Dat.enc { e with text := s }) := rfl
@[go_sem] theorem put_img0 (e : Img) {i : Nat} (h : i < 8) (p : List Nat) (x : AV) : e.enc.put (0 :: i :: p) x = (e.inode[i].enc.put p x).map fun y => .cons (setV Ino.enc e.inode i y) (.cons (encV (encV Ent.enc) e.dir) (.cons (encV Dat.enc e.data) .unit)) := by
  simp only [Img.enc]
  rw [put_cons0, put_encV h, Option.map_map]; rfl
@[go_sem] theorem img_ino (e : Img) {i : Nat} (h : i < 8) (y : Ino) : AV.cons (setV Ino.enc e.inode i y.enc) (.cons (encV (encV Ent.enc) e.dir) (.cons (encV Dat.enc e.data) .unit)) = Img.enc { e with inode := e.inode.set i y } := by
  rw [setV_f h]; rfl
@[go_sem] theorem put_img2 (e : Img) {i : Nat} (h : i < 9) (p : List Nat) (x : AV) : e.enc.put (2 :: i :: p) x = (e.data[i].enc.put p x).map fun y => .cons (encV Ino.enc e.inode) (.cons (encV (encV Ent.enc) e.dir) (.cons (setV Dat.enc e.data i y) .unit)) := by
  have key := put_encV (f := Dat.enc) (v := e.data) h p x
  show ((((encV Dat.enc e.data).put (i :: p) x).map fun y => AV.cons y .unit).map fun y => AV.cons (encV (encV Ent.enc) e.dir) y).map (fun y => AV.cons (encV Ino.enc e.inode) y) = _
  rw [key]
  cases e.data[i].enc.put p x <;> rfl
@[go_sem] theorem img_dat (e : Img) {i : Nat} (h : i < 9) (y : Dat) : AV.cons (encV Ino.enc e.inode) (.cons (encV (encV Ent.enc) e.dir) (.cons (setV Dat.enc e.data i y.enc) .unit)) = Img.enc { e with data := e.data.set i y } := by
  rw [setV_f h]; rfl
@[go_sem] theorem put_img1 (e : Img) {i j : Nat} (h : i < 3) (hj : j < 4) (p : List Nat) (x : AV) : e.enc.put (1 :: i :: j :: p) x = (e.dir[i][j].enc.put p x).map fun y => .cons (encV Ino.enc e.inode) (.cons (setV (encV Ent.enc) e.dir i (setV Ent.enc e.dir[i] j y)) (.cons (encV Dat.enc e.data) .unit)) := by
  have key : (encV (encV Ent.enc) e.dir).put (i :: j :: p) x = (e.dir[i][j].enc.put p x).map fun y => setV (encV Ent.enc) e.dir i (setV Ent.enc e.dir[i] j y) := by
    rw [put_encV h, put_encV hj, Option.map_map]; rfl
  show (((encV (encV Ent.enc) e.dir).put (i :: j :: p) x).map fun y => AV.cons y (.cons (encV Dat.enc e.data) .unit)).map (fun y => AV.cons (encV Ino.enc e.inode) y) = _
  rw [key]
  cases e.dir[i][j].enc.put p x <;> rfl
@[go_sem] theorem img_dir (e : Img) {i j : Nat} (h : i < 3) (hj : j < 4) (y : Ent) : AV.cons (encV Ino.enc e.inode) (.cons (setV (encV Ent.enc) e.dir i (setV Ent.enc e.dir[i] j y.enc)) (.cons (encV Dat.enc e.data) .unit)) = Img.enc { e with dir := e.dir.set i (e.dir[i].set j y) } := by
  rw [setV_f hj, setV_f h]; rfl
@[go_sem] theorem put_img_row (e : Img) {i : Nat} (h : i < 3) (y : Vector Ent 4) : e.enc.put [1, i] (encV Ent.enc y) = some (Img.enc { e with dir := e.dir.set i y }) := by
  have key : (encV (encV Ent.enc) e.dir).put [i] (encV Ent.enc y) = some (encV (encV Ent.enc) (e.dir.set i y)) := by
    rw [put_encV h, put_nil, Option.map_some, setV_f h]
  show (((encV (encV Ent.enc) e.dir).put [i] (encV Ent.enc y)).map fun y => AV.cons y (.cons (encV Dat.enc e.data) .unit)).map (fun y => AV.cons (encV Ino.enc e.inode) y) = _
  rw [key]; rfl

theorem fits_ent' (e : Ent) : tEntry.fits e.enc = true := rfl
theorem fits_ino' (e : Ino) : tInode.fits e.enc = true := rfl
theorem fits_dat' (e : Dat) : tData.fits e.enc = true := rfl
theorem fits_row' (v : Vector Ent 4) : tRow.fits (encV Ent.enc v) = true := fits_encV fits_ent'
theorem fits_dirs' (v : Vector (Vector Ent 4) 3) : tDirs.fits (encV (encV Ent.enc) v) = true := fits_encV fits_row'
theorem fits_inodes' (v : Vector Ino 8) : tInodes.fits (encV Ino.enc v) = true := fits_encV fits_ino'
theorem fits_datas' (v : Vector Dat 9) : tDatas.fits (encV Dat.enc v) = true := fits_encV fits_dat'
theorem fits_parts' (v : Vector Int 2) : tParts.fits (encV (AV.int .i64) v) = true := fits_encV (t := tI) fun _ => rfl
theorem fits_img' (e : Img) : tImage.fits e.enc = true := by
  show (Ty.cons tInodes (.cons tDirs (.cons tDatas .unit))).fits (AV.cons _ (.cons _ (.cons _ .unit))) = true
  simp only [fits_cons, fits_unit, fits_inodes', fits_dirs', fits_datas', and_self]
@[go_sem] theorem fits_ent (e : Ent) : (tEntry.fits e.enc = true) = True := eq_true (fits_ent' e)
@[go_sem] theorem fits_ino (e : Ino) : (tInode.fits e.enc = true) = True := eq_true (fits_ino' e)
@[go_sem] theorem fits_dat (e : Dat) : (tData.fits e.enc = true) = True := eq_true (fits_dat' e)
@[go_sem] theorem fits_img (e : Img) : (tImage.fits e.enc = true) = True := eq_true (fits_img' e)
@[go_sem] theorem fits_row (v : Vector Ent 4) : (tRow.fits (encV Ent.enc v) = true) = True := eq_true (fits_row' v)
@[go_sem] theorem fits_dirs (v : Vector (Vector Ent 4) 3) : (tDirs.fits (encV (encV Ent.enc) v) = true) = True := eq_true (fits_dirs' v)
@[go_sem] theorem fits_inodes (v : Vector Ino 8) : (tInodes.fits (encV Ino.enc v) = true) = True := eq_true (fits_inodes' v)
@[go_sem] theorem fits_datas (v : Vector Dat 9) : (tDatas.fits (encV Dat.enc v) = true) = True := eq_true (fits_datas' v)
@[go_sem] theorem fits_parts (v : Vector Int 2) : (tParts.fits (encV (AV.int .i64) v) = true) = True := eq_true (fits_parts' v)
@[go_sem] theorem fits_row4 (v : Vector Ent 4) : ((Ty.arr 4 tEntry).fits (encV Ent.enc v) = true) = True := fits_row v
@[go_sem] theorem fits_dirs3 (v : Vector (Vector Ent 4) 3) : ((Ty.arr 3 tRow).fits (encV (encV Ent.enc) v) = true) = True := fits_dirs v
@[go_sem] theorem fits_inodes8 (v : Vector Ino 8) : ((Ty.arr 8 tInode).fits (encV Ino.enc v) = true) = True := fits_inodes v
@[go_sem] theorem fits_datas9 (v : Vector Dat 9) : ((Ty.arr 9 tData).fits (encV Dat.enc v) = true) = True := fits_datas v
@[go_sem] theorem fits_parts2 (v : Vector Int 2) : ((Ty.arr 2 tI).fits (encV (AV.int .i64) v) = true) = True := fits_parts v
@[go_sem] theorem fits_tI (n : Int) : (tI.fits (.int .i64 n) = true) = True := eq_true rfl
@[go_sem] theorem fits_tB (n : Bool) : (tB.fits (.bool n) = true) = True := eq_true rfl
@[go_sem] theorem fits_tS (n : Str) : (tS.fits (.str n) = true) = True := eq_true rfl
@[go_sem] theorem fitO_ite (t : Ty) (v : AV) : fitO t (some v) = if t.fits v = true then some v else none := rfl
@[go_sem] theorem fg_ent (e : Ent) (i : Id) : fg e.enc i = e.enc := rfl
@[go_sem] theorem fg_ino (e : Ino) (i : Id) : fg e.enc i = e.enc := rfl
@[go_sem] theorem fg_dat (e : Dat) (i : Id) : fg e.enc i = e.enc := rfl
@[go_sem] theorem fg_img (e : Img) (i : Id) : fg e.enc i = e.enc := rfl
@[go_sem] theorem leads_ent (e : Ent) (i : Id) : e.enc.leads i = false := rfl
@[go_sem] theorem leads_ino (e : Ino) (i : Id) : e.enc.leads i = false := rfl
@[go_sem] theorem leads_dat (e : Dat) (i : Id) : e.enc.leads i = false := rfl
@[go_sem] theorem leads_img (e : Img) (i : Id) : e.enc.leads i = false := rfl
@[go_sem] theorem isAgg_ent (e : Ent) : e.enc.isAgg = true := rfl
@[go_sem] theorem isAgg_ino (e : Ino) : e.enc.isAgg = true := rfl
@[go_sem] theorem isAgg_dat (e : Dat) : e.enc.isAgg = true := rfl
@[go_sem] theorem isAgg_img (e : Img) : e.enc.isAgg = true := rfl

theorem eq_int (a b : Int) : (AV.int .i64 a).eq (AV.int .i64 b) = some (decide (a = b)) := by
  show some (a == b) = _
  congr 1
theorem eq_str (a b : Str) : (AV.str a).eq (AV.str b) = some (decide (a = b)) := by
  show some (a == b) = _
  congr 1
  cases a with | mk x => cases b with | mk y =>
  rw [Bool.eq_iff_iff, decide_eq_true_eq, ByteArray.mk.injEq]
  show (x == y) = true ↔ _
  exact beq_iff_eq
theorem eq_bool (a b : Bool) : (AV.bool a).eq (AV.bool b) = some (decide (a = b)) := by
  show some (a == b) = _
  congr 1
theorem eq_cons (a b c d : AV) : (AV.cons a b).eq (.cons c d) = andEq (a.eq c) (b.eq d) := rfl
theorem eq_unit : AV.unit.eq .unit = some true := rfl
theorem andEq_tt (p : Prop) [Decidable p] : andEq (some (decide p)) (some true) = some (decide p) := by
  by_cases hp : p <;> simp [hp, andEq]
theorem eq_ent (a b : Ent) : a.enc.eq b.enc = some (decide (a = b)) := by
  simp only [Ent.enc, eq_cons, eq_unit, eq_int, eq_str, andEq_dec, andEq_tt]
  congr 1; rw [decide_eq_decide]; cases a; cases b; simp
theorem eq_dat (a b : Dat) : a.enc.eq b.enc = some (decide (a = b)) := by
  simp only [Dat.enc, eq_cons, eq_unit, eq_int, eq_str, andEq_dec, andEq_tt]
  congr 1; rw [decide_eq_decide]; cases a; cases b; simp
theorem eq_ino (a b : Ino) : a.enc.eq b.enc = some (decide (a = b)) := by
  have h1 : ∀ v w : Vector Int 2, (encV (AV.int .i64) v).eq (encV (AV.int .i64) w) = some (decide (v = w)) := fun v w => eq_encV eq_int
  simp only [Ino.enc]
  simp only [eq_cons, eq_unit, h1, eq_bool, eq_int, andEq_dec, andEq_tt]
  congr 1; rw [decide_eq_decide]; cases a; cases b; simp
theorem eq_row (v w : Vector Ent 4) : (encV Ent.enc v).eq (encV Ent.enc w) = some (decide (v = w)) := eq_encV eq_ent
theorem eq_img (a b : Img) : a.enc.eq b.enc = some (decide (a = b)) := by
  have h1 : ∀ v w : Vector Ino 8, (encV Ino.enc v).eq (encV Ino.enc w) = some (decide (v = w)) := fun v w => eq_encV eq_ino
  have h2 : ∀ v w : Vector (Vector Ent 4) 3, (encV (encV Ent.enc) v).eq (encV (encV Ent.enc) w) = some (decide (v = w)) := fun v w => eq_encV eq_row
  have h3 : ∀ v w : Vector Dat 9, (encV Dat.enc v).eq (encV Dat.enc w) = some (decide (v = w)) := fun v w => eq_encV eq_dat
  simp only [Img.enc]
  simp only [eq_cons, eq_unit, h1, h2, h3, andEq_dec, andEq_tt]
  congr 1; rw [decide_eq_decide]; cases a; cases b; simp
theorem eqV_of {t : Ty} {neg : Bool} {x y : AV} {b : Bool} (hx : t.eqOk x = true) (hy : t.eqOk y = true) (h : x.eq y = some b) : eqV t neg x y = some (.bool (if neg = true then !b else b)) := by
  simp only [eqV, hx, hy, h, Bool.and_self, if_true, Option.map_some]
@[go_sem] theorem eqV_ent (neg : Bool) (a b : Ent) : eqV tEntry neg a.enc b.enc = some (.bool (if neg = true then !decide (a = b) else decide (a = b))) := eqV_of rfl rfl (eq_ent a b)
@[go_sem] theorem eqV_ino (neg : Bool) (a b : Ino) : eqV tInode neg a.enc b.enc = some (.bool (if neg = true then !decide (a = b) else decide (a = b))) := eqV_of rfl rfl (eq_ino a b)
@[go_sem] theorem eqV_dat (neg : Bool) (a b : Dat) : eqV tData neg a.enc b.enc = some (.bool (if neg = true then !decide (a = b) else decide (a = b))) := eqV_of rfl rfl (eq_dat a b)
@[go_sem] theorem eqV_img (neg : Bool) (a b : Img) : eqV tImage neg a.enc b.enc = some (.bool (if neg = true then !decide (a = b) else decide (a = b))) := eqV_of (fits_img' a) (fits_img' b) (eq_img a b)
@[go_sem] theorem eqV_row (neg : Bool) (a b : Vector Ent 4) : eqV tRow neg (encV Ent.enc a) (encV Ent.enc b) = some (.bool (if neg = true then !decide (a = b) else decide (a = b))) := eqV_of (fits_row' a) (fits_row' b) (eq_row a b)

/-! Nothing. -/
def Ent.zero : Ent := ⟨ByteArray.empty, 0, 0⟩
def Dat.zero : Dat := ⟨0, ByteArray.empty⟩
def Ino.zero : Ino := ⟨false, 0, 0, Vector.replicate 2 0⟩
def Ino.none : Ino := ⟨false, 0, 0, Vector.replicate 2 (-1)⟩
def Img.zero : Img := ⟨Vector.replicate 8 Ino.zero, Vector.replicate 3 (Vector.replicate 4 Ent.zero), Vector.replicate 9 Dat.zero⟩
theorem zero_encV {α : Type} {n : Nat} {f : α → AV} {t : Ty} {a : α} (h : t.zero = f a) : (Ty.arr n t).zero = encV f (Vector.replicate n a) := by
  simp [Ty.zero, encV, h]
@[go_sem] theorem zero_ent : tEntry.zero = Ent.zero.enc := rfl
@[go_sem] theorem zero_dat : tData.zero = Dat.zero.enc := rfl
theorem zero_parts : tParts.zero = encV (AV.int .i64) (Vector.replicate 2 0) := zero_encV (t := tI) rfl
@[go_sem] theorem zero_ino : tInode.zero = Ino.zero.enc := by
  show AV.cons _ (.cons _ (.cons _ (.cons tParts.zero _))) = _
  rw [zero_parts]; rfl
@[go_sem] theorem zero_row : tRow.zero = encV Ent.enc (Vector.replicate 4 Ent.zero) := zero_encV zero_ent
@[go_sem] theorem zero_img : tImage.zero = Img.zero.enc := by
  show AV.cons tInodes.zero (.cons tDirs.zero (.cons tDatas.zero .unit)) = _
  rw [show tInodes.zero = encV Ino.enc (Vector.replicate 8 Ino.zero) from zero_encV zero_ino, show tDirs.zero = encV (encV Ent.enc) (Vector.replicate 3 (Vector.replicate 4 Ent.zero)) from zero_encV zero_row, show tDatas.zero = encV Dat.enc (Vector.replicate 9 Dat.zero) from zero_encV zero_dat]; rfl
@[go_sem] theorem zero_tI : tI.zero = .int .i64 0 := rfl
@[go_sem] theorem zero_tB : tB.zero = .bool false := rfl
@[go_sem] theorem zero_tS : tS.zero = .str ByteArray.empty := rfl

@[go_sem] theorem field_img0 : tImage.field 0 = some tInodes := rfl
@[go_sem] theorem field_img1 : tImage.field 1 = some tDirs := rfl
@[go_sem] theorem field_img2 : tImage.field 2 = some tDatas := rfl
@[go_sem] theorem field_ino0 : tInode.field 0 = some tB := rfl
@[go_sem] theorem field_ino1 : tInode.field 1 = some tI := rfl
@[go_sem] theorem field_ino2 : tInode.field 2 = some tI := rfl
@[go_sem] theorem field_ino3 : tInode.field 3 = some tParts := rfl
@[go_sem] theorem field_ent0 : tEntry.field 0 = some tS := rfl
@[go_sem] theorem field_ent1 : tEntry.field 1 = some tI := rfl
@[go_sem] theorem field_ent2 : tEntry.field 2 = some tI := rfl
@[go_sem] theorem field_dat0 : tData.field 0 = some tI := rfl
@[go_sem] theorem field_dat1 : tData.field 1 = some tS := rfl
@[go_sem] theorem idxV_dirs (j : Id) (p : List Nat) (i : AV) : idxV 3 tRow (.ptr j p tDirs) i = idxV 3 tRow (.ptr j p (.arr 3 tRow)) i := rfl
@[go_sem] theorem idxV_row (j : Id) (p : List Nat) (i : AV) : idxV 4 tEntry (.ptr j p tRow) i = idxV 4 tEntry (.ptr j p (.arr 4 tEntry)) i := rfl
@[go_sem] theorem idxV_inodes (j : Id) (p : List Nat) (i : AV) : idxV 8 tInode (.ptr j p tInodes) i = idxV 8 tInode (.ptr j p (.arr 8 tInode)) i := rfl
@[go_sem] theorem idxV_datas (j : Id) (p : List Nat) (i : AV) : idxV 9 tData (.ptr j p tDatas) i = idxV 9 tData (.ptr j p (.arr 9 tData)) i := rfl
@[go_sem] theorem idxV_parts (j : Id) (p : List Nat) (i : AV) : idxV 2 tI (.ptr j p tParts) i = idxV 2 tI (.ptr j p (.arr 2 tI)) i := rfl
@[go_sem] theorem fldV_ptr' (st : Ty) (i : Nat) (ft : Ty) (j : Id) (p : List Nat) : fldV st i ft (.ptr j p st) = if st.field i = some ft then some (.ptr j (p ++ [i]) ft) else none := fldV_ptr ..
end Go.Mini
