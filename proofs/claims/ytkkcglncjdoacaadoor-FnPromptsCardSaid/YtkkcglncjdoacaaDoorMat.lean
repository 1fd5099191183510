/- Square tables of Bools of the call's own; the closure that waits computes. Plain lemmas. -/
import Derived.Test.YtkkcglncjdoacaaDoorBl
import Derived.Test.YtkkcglncjdoacaaDoorCue
namespace Go.Proofs.YtkkcglncjdoacaaDoor
open Go.ChangeShapes Go.WideShapes Go.ChangeAt Go.RowKit Go.Joins
set_option maxRecDepth 20000
set_option linter.unusedSimpArgs false
set_option linter.unusedVariables false

def mapR {α : Type} (n : Nat) (f : Nat → α) : List α := (List.range n).map f
theorem mapR_length {α : Type} (n : Nat) (f : Nat → α) : (mapR n f).length = n := by simp [mapR]
theorem mapR_get {α : Type} {n : Nat} (f : Nat → α) {q : Nat} (h : q < n) : (mapR n f)[q]? = some (f q) := by simp [mapR, h]
theorem mapR_set {α : Type} {n : Nat} (f : Nat → α) (q : Nat) (v : α) : (mapR n f).set q v = mapR n (fun b => if b = q then v else f b) := by
  apply List.ext_getElem?
  intro j
  rw [List.getElem?_set]
  by_cases hj : j < n
  · by_cases hq : q = j
    · subst hq; rw [if_pos rfl, if_pos (by rw [mapR_length]; exact hj), mapR_get _ hj, if_pos rfl]
    · rw [if_neg hq, mapR_get _ hj, mapR_get _ hj, if_neg (fun e => hq e.symm)]
  · have h1 : (mapR n f)[j]? = none := List.getElem?_eq_none (by rw [mapR_length]; omega)
    have h2 : (mapR n (fun b => if b = q then v else f b))[j]? = none := List.getElem?_eq_none (by rw [mapR_length]; omega)
    rw [h1, h2]
    by_cases hq : q = j
    · subst hq; simp [mapR_length, hj]
    · rw [if_neg hq]
theorem mapR_congr {α : Type} {n : Nat} {f g : Nat → α} (h : ∀ q, q < n → f q = g q) : mapR n f = mapR n g := List.map_congr_left fun q hq => h q (List.mem_range.1 hq)
abbrev Mx := Nat → Nat → Bool
/-- A table of i rows (of n) of the call's own: the rows' blocks gs, behind the table's block G. -/
def Mat (w : World) (B G n i : Nat) (gs : Nat → Nat) (R : Mx) : Prop :=
  w.ownsRow B 88 1 (.slice (some ⟨G, 0, none⟩) n n) n (mapR n fun j => if j < i then .slice (some ⟨gs j, 0, none⟩) n n else .slice none 0 0) ∧
    (∀ j, j < i → OwBl w B (.slice (some ⟨gs j, 0, none⟩) n n) (mapR n (R j)) ∧ G < gs j) ∧ (∀ j j', j < j' → j' < i → gs j < gs j')
theorem Mat.below {w w' : World} {B G n i : Nat} {gs : Nat → Nat} {R : Mx} (h : Mat w B G n i gs R) (hb : Below w.heap.size w w') : Mat w' B G n i gs R :=
  ⟨own_below h.1 hb, fun j hj => ⟨(h.2.1 j hj).1.below hb, (h.2.1 j hj).2⟩, h.2.2⟩
theorem Mat.congr {w : World} {B G n i : Nat} {gs : Nat → Nat} {R R' : Mx} (h : Mat w B G n i gs R) (hr : ∀ a b, a < i → b < n → R a b = R' a b) : Mat w B G n i gs R' :=
  ⟨h.1, fun j hj => ⟨by rw [← mapR_congr (f := R j) fun q hq => hr j q hj hq]; exact (h.2.1 j hj).1, (h.2.1 j hj).2⟩, h.2.2⟩
theorem Mat.outer {w : World} {B G n i : Nat} {gs : Nat → Nat} {R : Mx} (h : Mat w B G n i gs R) {j : Nat} (hj : j < n) : w.cell? ⟨G, j, none⟩ = some (if j < i then .slice (some ⟨gs j, 0, none⟩) n n else .slice none 0 0) ∧ w.frozen? ⟨G, j, none⟩ = false := by
  refine ⟨?_, World.ownsRow.frozenAt h.1 j⟩
  rw [World.ownsRow.cellAt h.1 j (by omega), mapR_get _ hj]
theorem Mat.cell {w : World} {B G n i : Nat} {gs : Nat → Nat} {R : Mx} (h : Mat w B G n i gs R) {j k : Nat} (hj : j < i) (hk : k < n) : w.cell? ⟨gs j, k, none⟩ = some (.bool (R j k)) ∧ w.frozen? ⟨gs j, k, none⟩ = false := by
  have := (h.2.1 j hj).1.cell (k := k) (by rw [mapR_length]; exact hk)
  rw [List.getD_eq_getElem?_getD, mapR_get _ hk] at this
  exact this
theorem Mat.lt {w : World} {B G n i : Nat} {gs : Nat → Nat} {R : Mx} (h : Mat w B G n i gs R) : B ≤ G ∧ G < w.heap.size := World.ownsRow.lt h.1 G rfl
theorem Mat.rowlt {w : World} {B G n i : Nat} {gs : Nat → Nat} {R : Mx} (h : Mat w B G n i gs R) {j : Nat} (hj : j < i) : G < gs j ∧ gs j < w.heap.size := ⟨(h.2.1 j hj).2, ((h.2.1 j hj).1.lt _ rfl).2⟩
theorem Mat.set {w : World} {B G n i : Nat} {gs : Nat → Nat} {R : Mx} (h : Mat w B G n i gs R) {j k : Nat} (hj : j < i) (hk : k < n) (v : Bool) :
    Mat (w.setCell ⟨gs j, k, none⟩ (.bool v)) B G n i gs (fun a b => if a = j ∧ b = k then v else R a b) ∧ Below B w (w.setCell ⟨gs j, k, none⟩ (.bool v)) := by
  have hg := h.rowlt hj
  have st := (h.2.1 j hj).1.set k v
  refine ⟨⟨World.ownsRow.kept h.1 st.2 (dis_addr (o := 0) (o' := 0) (n := n) (c := n) (n' := n) (c' := n) (by omega)), fun a ha => ⟨?_, (h.2.1 a ha).2⟩, h.2.2⟩, (Below.refl B w).setCell (by have := h.lt; simp; omega) _⟩
  by_cases haj : a = j
  · subst haj
    have := st.1
    rw [mapR_set] at this
    rw [mapR_congr (g := fun b => if b = k then v else R a b) fun q hq => by simp]
    exact this
  · rw [mapR_congr (g := R a) fun q hq => by simp [haj]]
    refine (h.2.1 a ha).1.kept (u := .slice (some ⟨gs j, 0, none⟩) n n) st.2 (dis_addr (o := 0) (o' := 0) (n := n) (c := n) (n' := n) (c' := n) ?_)
    rcases Nat.lt_or_gt_of_ne haj with hlt | hlt
    · have := h.2.2 a j hlt hj; omega
    · have := h.2.2 j a hlt ha; omega
/-- A new row of n Bools, all false, at place i. -/
theorem Mat.add {w : World} {B G n i : Nat} {gs : Nat → Nat} {R : Mx} (h : Mat w B G n i gs R) (hi : i < n) (hn : n ≤ 9223372036854775807) :
    Mat ((w.alloc (.cells (madeCells #[.bool false] n) 4)).setCell ⟨G, i, none⟩ (.slice (some ⟨w.heap.size, 0, none⟩) n n)) B G n (i + 1) (fun j => if j = i then w.heap.size else gs j) (fun a b => if a = i then false else R a b) := by
  have hG := h.lt
  have h1 := h.below (below_alloc1 w (.cells (madeCells #[.bool false] n) 4))
  have st := World.ownsRow.stored h1.1 i (.slice (some ⟨w.heap.size, 0, none⟩) n n)
  have hnew := (OwBl.made w n hn).base (show B ≤ w.heap.size by omega)
  refine ⟨?_, fun j hj => ?_, fun j j' hjj hj' => ?_⟩
  · have := st.1
    rw [mapR_set] at this
    rw [mapR_congr (g := fun b => if b = i then .slice (some ⟨w.heap.size, 0, none⟩) n n else if b < i then .slice (some ⟨gs b, 0, none⟩) n n else .slice none 0 0)]
    · exact this
    · intro q hq
      dsimp only
      by_cases hqi : q = i
      · subst hqi; simp
      · by_cases hql : q < i
        · rw [if_pos (show q < i + 1 by omega), if_neg hqi, if_neg hqi, if_pos hql]
        · rw [if_neg (show ¬ q < i + 1 by omega), if_neg hqi, if_neg hql]
  · dsimp only
    by_cases hji : j = i
    · subst hji
      rw [if_pos rfl, mapR_congr (g := fun _ => false) fun q hq => by simp]
      refine ⟨?_, hG.2⟩
      have e : List.replicate n false = mapR n (fun _ => false) := by
        apply List.ext_getElem?
        intro q
        by_cases hq : q < n
        · rw [mapR_get _ hq]; simp [hq]
        · rw [List.getElem?_eq_none (by simp; omega), List.getElem?_eq_none (by rw [mapR_length]; omega)]
      rw [← e]
      exact hnew.kept (u := .slice (some ⟨G, 0, none⟩) n n) st.2 (dis_addr (o := 0) (o' := 0) (n := n) (c := n) (n' := n) (c' := n) (by omega))
    · rw [if_neg hji, mapR_congr (g := R j) fun q hq => by simp [hji]]
      have := h1.2.1 j (by omega)
      exact ⟨this.1.kept (u := .slice (some ⟨G, 0, none⟩) n n) st.2 (dis_addr (o := 0) (o' := 0) (n := n) (c := n) (n' := n) (c' := n) (by omega)), this.2⟩
  · dsimp only
    have hj := h.rowlt (show j < i by omega)
    rw [if_neg (show ¬ j = i by omega)]
    by_cases hji : j' = i
    · rw [if_pos hji]; exact hj.2
    · rw [if_neg hji]; exact h.2.2 j j' hjj (by omega)
/-- The table that an empty block begins. -/
theorem Mat.start (w : World) (n : Nat) (hn : n ≤ 9223372036854775807) (gs : Nat → Nat) (R : Mx) : Mat (w.alloc (.cells (madeCells #[.slice none 0 0] n) 88)) w.heap.size w.heap.size n 0 gs R := by
  refine ⟨?_, fun j hj => by omega, fun j j' _ hj => by omega⟩
  have h := World.ownsRow_lit (base := w.heap.size) (e := 88) (size := 1) w (madeCells #[.slice none 0 0] n) n (Nat.le_refl _) (by rw [maxLen_eq]; omega) (by rw [size_madeCells]; omega)
  rw [toList_madeCells_one] at h
  have e : (List.replicate n (.slice none 0 0) : List Value) = mapR n fun j => if j < 0 then .slice (some ⟨gs j, 0, none⟩) n n else .slice none 0 0 := by
    apply List.ext_getElem?
    intro q
    by_cases hq : q < n
    · rw [mapR_get _ hq]; simp [hq]
    · rw [List.getElem?_eq_none (by simp; omega), List.getElem?_eq_none (by rw [mapR_length]; omega)]
  rw [← e]
  exact h
/-! ### The closure -/
def R0 (zs : List CueV) : Mx := fun i k => match zs[i]? with | some z => z.2.1.any (· == (k : Int)) | none => false
def rowStep (m i : Nat) (R : Mx) : Mx := fun a b => if a = i then R a b || (R a m && R m b) else R a b
/-- .. while column k of the row is under way. -/
def rowMid (m i k : Nat) (R : Mx) : Mx := fun a b => if a = i ∧ b < k then R a b || (R a m && R m b) else R a b
def loopI (m : Nat) : Mx → Nat → Nat → Mx
  | R, _, 0 => R
  | R, i, c + 1 => loopI m (rowStep m i R) (i + 1) c
def loopM (n : Nat) : Mx → Nat → Nat → Mx
  | R, _, 0 => R
  | R, m, c + 1 => loopM n (loopI m R 0 n) (m + 1) c
def waitsF (zs : List CueV) : Mx := loopM zs.length (R0 zs) 0 zs.length
theorem loopI_step (m : Nat) (R : Mx) {i n : Nat} (h : i < n) : loopI m R i (n - i) = loopI m (rowStep m i R) (i + 1) (n - (i + 1)) := by
  rw [show n - i = (n - (i + 1)) + 1 by omega]
  rfl
theorem loopI_end (m : Nat) (R : Mx) {i n : Nat} (h : n ≤ i) : loopI m R i (n - i) = R := by
  rw [show n - i = 0 by omega]
  rfl
theorem loopM_step (n' : Nat) (R : Mx) {m n : Nat} (h : m < n) : loopM n' R m (n - m) = loopM n' (loopI m R 0 n') (m + 1) (n - (m + 1)) := by
  rw [show n - m = (n - (m + 1)) + 1 by omega]
  rfl
theorem loopM_end (n' : Nat) (R : Mx) {m n : Nat} (h : n ≤ m) : loopM n' R m (n - m) = R := by
  rw [show n - m = 0 by omega]
  rfl
theorem rowMid_zero (m i : Nat) (R : Mx) : rowMid m i 0 R = R := by
  funext a b
  simp [rowMid]
theorem rowMid_full {m i n : Nat} (R : Mx) {a b : Nat} (hb : b < n) : rowMid m i n R a b = rowStep m i R a b := by
  simp [rowMid, rowStep, hb]
theorem rowMid_reads {m i k : Nat} (R : Mx) : rowMid m i k R i m = R i m ∧ rowMid m i k R m k = R m k ∧ rowMid m i k R i k = R i k := by
  refine ⟨?_, ?_, ?_⟩
  · simp only [rowMid]
    split
    · cases R i m <;> simp
    · rfl
  · simp [rowMid]
  · simp [rowMid]
theorem rowMid_succ {m i k : Nat} (R : Mx) (v : Bool) (hv : v = (R i k || (R i m && R m k))) : (fun a b => if a = i ∧ b = k then v else rowMid m i k R a b) = rowMid m i (k + 1) R := by
  funext a b
  simp only [rowMid]
  by_cases ha : a = i
  · subst ha
    by_cases hb : b = k
    · subst hb; simp [hv]
    · by_cases hlt : b < k
      · simp [hb, hlt, show b < k + 1 by omega]
      · simp [hb, hlt, show ¬ b < k + 1 by omega]
  · simp [ha]
theorem infoBools : (Tryd.prog.info? 88).map (fun i => (i.zero, i.size, i.bytes)) = some (some (.slice none 0 0), 1, 24) := by kernel_rfl
theorem underBoolss : Tryd.prog.underlying 86 = some (.slice 88) := Tryd.underlying86
end Go.Proofs.YtkkcglncjdoacaaDoor
