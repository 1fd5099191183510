/- Slices of Bools of the call's own: reading, storing, making. Plain lemmas. -/
import Derived.Test.YtkkcglncjdoacaaDoorApp
namespace Go.Proofs.YtkkcglncjdoacaaDoor
open Go.ChangeShapes Go.WideShapes Go.ChangeAt Go.RowKit Go.Joins
set_option linter.unusedSimpArgs false
set_option linter.unusedVariables false

def bools (zs : List Bool) : List Value := zs.map Value.bool
theorem bools_length (zs : List Bool) : (bools zs).length = zs.length := by simp [bools]
theorem bools_get (zs : List Bool) (j : Nat) : (bools zs)[j]? = (zs[j]?).map Value.bool := by simp [bools]
/-- v is a slice of Bools of the call's own that holds zs. -/
def OwBl (w : World) (B : Nat) (v : Value) (zs : List Bool) : Prop := w.ownsRow B 4 1 v zs.length (bools zs)
theorem OwBl.below {w w' : World} {B : Nat} {v : Value} {zs : List Bool} (h : OwBl w B v zs) (hb : Below w.heap.size w w') : OwBl w' B v zs := own_below h hb
theorem OwBl.lt {w : World} {B : Nat} {v : Value} {zs : List Bool} (h : OwBl w B v zs) : ∀ k, v.ownBlock = some k → B ≤ k ∧ k < w.heap.size := World.ownsRow.lt h
theorem OwBl.base {w : World} {B B' : Nat} {v : Value} {zs : List Bool} (h : OwBl w B v zs) (hB : B' ≤ B) : OwBl w B' v zs := own_base h hB
theorem OwBl.drewN {w : World} {B : Nat} {v : Value} {zs : List Bool} (h : OwBl w B v zs) (n : Nat) : OwBl (w.drewN n) B v zs := h
theorem OwBl.kept {w w' : World} {B : Nat} {v u : Value} {zs : List Bool} (h : OwBl w B v zs) (hg : w.grownBy w' u.ownBlock) (hd : Dis v u) : OwBl w' B v zs := World.ownsRow.kept h hg hd
theorem OwBl.cell {w : World} {B g cap : Nat} {zs : List Bool} {n : Nat} (h : OwBl w B (.slice (some ⟨g, 0, none⟩) n cap) zs) {k : Nat} (hk : k < zs.length) :
    w.cell? ⟨g, k, none⟩ = some (.bool (zs.getD k false)) ∧ w.frozen? ⟨g, k, none⟩ = false := by
  have hn : zs.length = n := by
    rcases h.2 with ⟨h', _⟩ | ⟨g', cap', cur, h', _⟩
    · simp at h'
    · simp only [Value.slice.injEq] at h'; exact h'.2.1.symm
  subst hn
  refine ⟨?_, World.ownsRow.frozenAt h k⟩
  rw [World.ownsRow.cellAt h k (by omega), bools_get, List.getElem?_eq_getElem hk]
  simp [hk]
theorem OwBl.set {w : World} {B g cap : Nat} {zs : List Bool} {n : Nat} (h : OwBl w B (.slice (some ⟨g, 0, none⟩) n cap) zs) (k : Nat) (x : Bool) :
    OwBl (w.setCell ⟨g, k, none⟩ (.bool x)) B (.slice (some ⟨g, 0, none⟩) n cap) (zs.set k x) ∧ w.grownBy (w.setCell ⟨g, k, none⟩ (.bool x)) (some g) := by
  have hn : zs.length = n := by
    rcases h.2 with ⟨h', _⟩ | ⟨g', cap', cur, h', _⟩
    · simp at h'
    · simp only [Value.slice.injEq] at h'; exact h'.2.1.symm
  subst hn
  have h1 := World.ownsRow.stored h k (.bool x)
  refine ⟨?_, h1.2⟩
  unfold OwBl
  rw [List.length_set]
  have e : (bools zs).set k (.bool x) = bools (zs.set k x) := by simp [bools, List.map_set]
  rw [← e]
  exact h1.1
/-- A fresh array of n Bools, all false. -/
theorem OwBl.made (w : World) (n : Nat) (hn : n ≤ 9223372036854775807) : OwBl (w.alloc (.cells (madeCells #[.bool false] n) 4)) w.heap.size (.slice (some ⟨w.heap.size, 0, none⟩) n n) (List.replicate n false) := by
  have h := World.ownsRow_lit (base := w.heap.size) (e := 4) (size := 1) w (madeCells #[.bool false] n) n (Nat.le_refl _) (by rw [maxLen_eq]; exact hn) (by rw [size_madeCells]; omega)
  unfold OwBl
  rw [List.length_replicate]
  have e : bools (List.replicate n false) = (madeCells #[.bool false] n).toList := by rw [toList_madeCells_one]; simp [bools]
  rw [e]
  exact h
theorem infoBool : (Tryd.prog.info? 4).map (fun i => (i.zero, i.size, i.bytes)) = some (some (.bool false), 1, 1) := by kernel_rfl
theorem underBools : Tryd.prog.underlying 88 = some (.slice 4) := Tryd.underlying88
theorem getD_set {zs : List Bool} {k : Nat} (hk : k < zs.length) (x : Bool) (j : Nat) : (zs.set k x).getD j false = if j = k then x else zs.getD j false := by
  rw [List.getD_eq_getElem?_getD, List.getElem?_set]
  by_cases h : k = j
  · subst h; simp [hk]
  · rw [if_neg h, if_neg (fun e => h e.symm), List.getD_eq_getElem?_getD]
theorem getD_replicate (n j : Nat) : (List.replicate n false).getD j false = false := by
  rw [List.getD_eq_getElem?_getD, List.getElem?_replicate]
  split <;> rfl
end Go.Proofs.YtkkcglncjdoacaaDoor
