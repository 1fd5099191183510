/- Slices in memory: what a slice of whole numbers reads as (RdI), and a slice of the call's own (OwI); how both go on behind calls and stores. Plain lemmas, no program text. -/
import Derived.Test.YtfedhjfijcnpdaaBase
import Derived.Deep.OwnRows
namespace Go.Proofs.Ytfedhjfijcnpdaa
open Go.ChangeShapes Go.WideShapes Go.ChangeAt Go.RowKit Go.Joins
set_option maxRecDepth 20000

theorem maxLen_eq : maxLen = 9223372036854775807 := by simp [maxLen]

/-- v reads in w as a slice of n elements whose cells are cs. -/
def Rd (w : World) (v : Value) (n : Nat) (cs : List Value) : Prop :=
  ∃ (a : Option Addr) (cap b off : Nat), v = .slice a n cap ∧ n ≤ cap ∧ cap ≤ 9223372036854775807 ∧ (0 < cs.length → a = some ⟨b, off, none⟩) ∧ ∀ j u, cs[j]? = some u → w.cell? ⟨b, off + j, none⟩ = some u

theorem Rd.below {w w' : World} {v : Value} {n : Nat} {cs : List Value} (h : Rd w v n cs) (hb : Below w.heap.size w w') : Rd w' v n cs := by
  obtain ⟨a, cap, b, off, hv, h1, h2, h3, h4⟩ := h
  refine ⟨a, cap, b, off, hv, h1, h2, h3, fun j u hj => ?_⟩
  have hc := h4 j u hj
  rw [hb.cell (p := ⟨b, off + j, none⟩) (block_lt_of_cell hc)]
  exact hc

theorem Rd.of_own {w : World} {B e sz : Nat} {v : Value} {n : Nat} {cs : List Value} (h : w.ownsRow B e sz v n cs) : Rd w v n cs := by
  obtain ⟨hl, h⟩ := h
  rcases h with ⟨rfl, rfl⟩ | ⟨g, cap, cur, rfl, hg, hh, hn, hm, hs, ht⟩
  · refine ⟨none, 0, 0, 0, rfl, Nat.le_refl _, by omega, fun h0 => ?_, fun j u hj => ?_⟩
    · rw [hl] at h0; omega
    · have : cs = [] := List.eq_nil_of_length_eq_zero (by rw [hl]; omega)
      subst this; simp at hj
  · refine ⟨some ⟨g, 0, none⟩, cap, g, 0, rfl, hn, by rw [maxLen_eq] at hm; exact hm, fun _ => rfl, fun j u hj => ?_⟩
    rw [Nat.zero_add, cell_of_row w g j cur e (0, 0) hh]
    rw [← ht, List.getElem?_take] at hj
    split at hj
    · simpa using hj
    · cases hj

theorem own_below {w w' : World} {B e sz : Nat} {v : Value} {n : Nat} {cs : List Value} (h : w.ownsRow B e sz v n cs) (hb : Below w.heap.size w w') : w'.ownsRow B e sz v n cs := by
  obtain ⟨h1, h2⟩ := h
  refine ⟨h1, ?_⟩
  rcases h2 with h2 | ⟨g, cap, cur, hv, hg, hh, r⟩
  · exact .inl h2
  · exact .inr ⟨g, cap, cur, hv, hg, by rw [hb.block g (Array.getElem?_eq_some_iff.1 hh).1]; exact hh, r⟩
/-- .. the same where only what lies below B' has stayed. -/
theorem own_below_lt {w w' : World} {B B' e sz : Nat} {v : Value} {n : Nat} {cs : List Value} (h : w.ownsRow B e sz v n cs) (hb : Below B' w w') (hv : ∀ k, v.ownBlock = some k → k < B') : w'.ownsRow B e sz v n cs := by
  obtain ⟨h1, h2⟩ := h
  refine ⟨h1, ?_⟩
  rcases h2 with h2 | ⟨g, cap, cur, rfl, hg, hh, r⟩
  · exact .inl h2
  · exact .inr ⟨g, cap, cur, rfl, hg, by rw [hb.block g (hv g rfl)]; exact hh, r⟩
theorem own_base {w : World} {B B' e sz : Nat} {v : Value} {n : Nat} {cs : List Value} (h : w.ownsRow B e sz v n cs) (hB : B' ≤ B) : w.ownsRow B' e sz v n cs := by
  obtain ⟨h1, h2⟩ := h
  refine ⟨h1, ?_⟩
  rcases h2 with h2 | ⟨g, cap, cur, hv, hg, r⟩
  · exact .inl h2
  · exact .inr ⟨g, cap, cur, hv, Nat.le_trans hB hg, r⟩

/-- Whole numbers as cells. -/
def ints (zs : List Int) : List Value := zs.map (Value.int .i64)
theorem ints_length (zs : List Int) : (ints zs).length = zs.length := by simp [ints]
theorem ints_append (xs ys : List Int) : ints (xs ++ ys) = ints xs ++ ints ys := by simp [ints]
theorem ints_get (zs : List Int) (j : Nat) : (ints zs)[j]? = (zs[j]?).map (Value.int .i64) := by simp [ints]
theorem ints_one (zs : List Int) : ∀ u ∈ ints zs, u.oneCell' = true := by
  intro u hu
  obtain ⟨z, _, rfl⟩ := List.mem_map.1 hu
  rfl
/-- v reads in w as the list zs. -/
def RdI (w : World) (v : Value) (zs : List Int) : Prop := Rd w v zs.length (ints zs)
/-- v is a slice of the call's own (its block from B on) that holds zs. -/
def OwI (w : World) (B : Nat) (v : Value) (zs : List Int) : Prop := w.ownsRow B 3 1 v zs.length (ints zs)
theorem RdI.below {w w' : World} {v : Value} {zs : List Int} (h : RdI w v zs) (hb : Below w.heap.size w w') : RdI w' v zs := Rd.below h hb
theorem RdI.shape {w : World} {v : Value} {zs : List Int} (h : RdI w v zs) : ∃ a cap, v = .slice a zs.length cap := by
  obtain ⟨a, cap, b, off, hv, _⟩ := h
  exact ⟨a, cap, hv⟩
theorem RdI.dr {w w' : World} {v : Value} {zs : List Int} (h : RdI w v zs) (hd : Dr w w') : RdI w' v zs := by
  obtain ⟨m, rfl⟩ := hd
  exact h
theorem RdI.drewN {w : World} {v : Value} {zs : List Int} (h : RdI w v zs) (n : Nat) : RdI (w.drewN n) v zs := h
theorem OwI.drewN {w : World} {B : Nat} {v : Value} {zs : List Int} (h : OwI w B v zs) (n : Nat) : OwI (w.drewN n) B v zs := h
theorem OwI.rd {w : World} {B : Nat} {v : Value} {zs : List Int} (h : OwI w B v zs) : RdI w v zs := Rd.of_own h
theorem OwI.below {w w' : World} {B : Nat} {v : Value} {zs : List Int} (h : OwI w B v zs) (hb : Below w.heap.size w w') : OwI w' B v zs := own_below h hb
theorem OwI.lt {w : World} {B : Nat} {v : Value} {zs : List Int} (h : OwI w B v zs) : ∀ k, v.ownBlock = some k → B ≤ k ∧ k < w.heap.size := World.ownsRow.lt h
theorem OwI.base {w : World} {B B' : Nat} {v : Value} {zs : List Int} (h : OwI w B v zs) (hB : B' ≤ B) : OwI w B' v zs := own_base h hB
theorem OwI.nil (w : World) (B : Nat) : OwI w B (.slice none 0 0) [] := World.ownsRow_nil _ _ _ _

/-- The parts of RdI that a walk wants. -/
theorem RdI.open {w : World} {v : Value} {zs : List Int} (h : RdI w v zs) : ∃ (a : Option Addr) (cap b off : Nat), v = .slice a zs.length cap ∧ zs.length ≤ cap ∧ cap ≤ 9223372036854775807 ∧
    (0 < zs.length → a = some ⟨b, off, none⟩) ∧ ∀ k, k < zs.length → w.cell? ⟨b, off + k, none⟩ = some (.int .i64 (zs.getD k 0)) := by
  obtain ⟨a, cap, b, off, hv, h1, h2, h3, h4⟩ := h
  refine ⟨a, cap, b, off, hv, h1, h2, by simpa [ints] using h3, fun k hk => h4 k _ ?_⟩
  rw [ints_get, List.getElem?_eq_getElem hk]
  simp [hk]
/-- An element of a slice of the call's own. -/
theorem OwI.cell {w : World} {B g cap : Nat} {zs : List Int} {n : Nat} (h : OwI w B (.slice (some ⟨g, 0, none⟩) n cap) zs) {k : Nat} (hk : k < zs.length) :
    w.cell? ⟨g, k, none⟩ = some (.int .i64 (zs.getD k 0)) ∧ w.frozen? ⟨g, k, none⟩ = false := by
  have hn : zs.length = n := by
    rcases h.2 with ⟨h', _⟩ | ⟨g', cap', cur, h', _⟩
    · simp at h'
    · simp only [Value.slice.injEq] at h'; exact h'.2.1.symm
  subst hn
  refine ⟨?_, World.ownsRow.frozenAt h k⟩
  rw [World.ownsRow.cellAt h k (by omega), ints_get, List.getElem?_eq_getElem hk]
  simp [hk]
theorem OwI.set {w : World} {B g cap : Nat} {zs : List Int} {n : Nat} (h : OwI w B (.slice (some ⟨g, 0, none⟩) n cap) zs) (k : Nat) (x : Int) :
    OwI (w.setCell ⟨g, k, none⟩ (.int .i64 x)) B (.slice (some ⟨g, 0, none⟩) n cap) (zs.set k x) ∧ w.grownBy (w.setCell ⟨g, k, none⟩ (.int .i64 x)) (some g) := by
  have hn : zs.length = n := by
    rcases h.2 with ⟨h', _⟩ | ⟨g', cap', cur, h', _⟩
    · simp at h'
    · simp only [Value.slice.injEq] at h'; exact h'.2.1.symm
  subst hn
  have h1 := World.ownsRow.stored h k (.int .i64 x)
  refine ⟨?_, h1.2⟩
  unfold OwI
  rw [List.length_set]
  have e : (ints zs).set k (.int .i64 x) = ints (zs.set k x) := by simp [ints, List.map_set]
  rw [← e]
  exact h1.1
theorem OwI.slice {w : World} {B : Nat} {v : Value} {zs : List Int} (h : OwI w B v zs) : (v = .slice none 0 0 ∧ zs = []) ∨ ∃ g cap, v = .slice (some ⟨g, 0, none⟩) zs.length cap ∧ B ≤ g ∧ g < w.heap.size ∧ zs.length ≤ cap ∧ cap ≤ 9223372036854775807 := by
  rcases h.2 with ⟨rfl, h0⟩ | ⟨g, cap, cur, rfl, hg, hh, hn, hm, _⟩
  · exact .inl ⟨rfl, List.eq_nil_of_length_eq_zero h0⟩
  · exact .inr ⟨g, cap, rfl, hg, (Array.getElem?_eq_some_iff.1 hh).1, hn, by rw [maxLen_eq] at hm; exact hm⟩
theorem OwI.form {w : World} {B : Nat} {v : Value} {zs : List Int} (h : OwI w B v zs) : ∃ A cap, v = .slice A zs.length cap ∧ zs.length ≤ cap ∧ cap ≤ 9223372036854775807 ∧ (0 < zs.length → ∃ g, A = some ⟨g, 0, none⟩ ∧ B ≤ g ∧ g < w.heap.size) := by
  rcases h.slice with ⟨rfl, rfl⟩ | ⟨g, cap, rfl, h1, h2, h3, h4⟩
  · exact ⟨none, 0, rfl, Nat.le_refl _, by omega, fun h0 => absurd h0 (by simp)⟩
  · exact ⟨_, cap, rfl, h3, h4, fun _ => ⟨g, rfl, h1, h2⟩⟩
/-- A fresh array of n zeros. -/
theorem OwI.made (w : World) (n : Nat) (hn : n ≤ 9223372036854775807) : OwI (w.alloc (.cells (madeCells #[.int .i64 0] n) 3)) w.heap.size (.slice (some ⟨w.heap.size, 0, none⟩) n n) (List.replicate n 0) := by
  have h := World.ownsRow_lit (base := w.heap.size) (e := 3) (size := 1) w (madeCells #[.int .i64 0] n) n (Nat.le_refl _) (by rw [maxLen_eq]; exact hn) (by rw [size_madeCells]; omega)
  unfold OwI
  rw [List.length_replicate]
  have e : ints (List.replicate n 0) = (madeCells #[.int .i64 0] n).toList := by rw [toList_madeCells_one]; simp [ints]
  rw [e]
  exact h
/-- Writes to one block of the call's own leave what lies below it. -/
theorem below_grown {a w w' : World} {v : Value} {B : Nat} (h : Below a.heap.size a w) (hg : w.grownBy w' v.ownBlock) (hv : ∀ k, v.ownBlock = some k → B ≤ k) (hB : a.heap.size ≤ B) : Below a.heap.size a w' :=
  h.grown hg h.size (fun k hk => Nat.le_trans hB (hv k hk))
theorem below_mark {a w w' : World} {v : Value} {B : Nat} {zs : List Int} (h : Below a.heap.size a w) (o : OwI w B v zs) (hB : a.heap.size ≤ B) (hg : w.grownBy w' v.ownBlock) : Below a.heap.size a w' :=
  below_grown h hg (fun k hk => (o.lt k hk).1) hB
/-- Behind a push, an append or a store: what lies below base is as it was. -/
theorem OwI.grown_below {a w w' : World} {B : Nat} {v : Value} {zs : List Int} (o : OwI w B v zs) (h : Below a.heap.size a w) (hB : a.heap.size ≤ B) (hg : w.grownBy w' v.ownBlock) : Below a.heap.size a w' := below_mark h o hB hg
/-- v and u lie in different blocks. -/
def Dis (v u : Value) : Prop := v.ownBlock = none ∨ v.ownBlock ≠ u.ownBlock
theorem dis_of {w w' : World} {B C : Nat} {v u : Value} (h : ∀ k, v.ownBlock = some k → B ≤ k ∧ k < w.heap.size) (h' : ∀ k, u.ownBlock = some k → C ≤ k ∧ k < w'.heap.size) (hc : w.heap.size ≤ C) : Dis v u := by
  rcases hv : v.ownBlock with _ | k
  · exact .inl hv
  · refine .inr fun e => ?_
    rw [hv] at e
    have h1 := (h k hv).2
    have h2 := (h' k e.symm).1
    omega
theorem dis_of' {w w' : World} {B C : Nat} {v u : Value} (h : ∀ k, v.ownBlock = some k → B ≤ k ∧ k < w.heap.size) (h' : ∀ k, u.ownBlock = some k → C ≤ k ∧ k < w'.heap.size) (hc : w.heap.size ≤ C) : Dis u v := by
  rcases hv : u.ownBlock with _ | k
  · exact .inl hv
  · refine .inr fun e => ?_
    rw [hv] at e
    have h1 := (h k e.symm).2
    have h2 := (h' k hv).1
    omega
theorem dis_addr {g g' o o' n c n' c' : Nat} (h : g ≠ g') : Dis (.slice (some ⟨g, o, none⟩) n c) (.slice (some ⟨g', o', none⟩) n' c') := .inr (by simpa [Value.ownBlock] using h)
theorem OwI.kept {w w' : World} {B : Nat} {v u : Value} {zs : List Int} (h : OwI w B v zs) (hg : w.grownBy w' u.ownBlock) (hd : Dis v u) : OwI w' B v zs := World.ownsRow.kept h hg hd
theorem OwI.dis {w w' : World} {B C : Nat} {v u : Value} {zs ys : List Int} (h : OwI w B v zs) (h' : OwI w' C u ys) (hc : w.heap.size ≤ C) : Dis v u := by
  rcases hv : v.ownBlock with _ | k
  · exact .inl hv
  · refine .inr fun e => ?_
    rw [hv] at e
    have h1 := (h.lt k hv).2
    have h2 := (h'.lt k e.symm).1
    omega
theorem OwI.dis' {w w' : World} {B C : Nat} {v u : Value} {zs ys : List Int} (h : OwI w B v zs) (h' : OwI w' C u ys) (hc : w.heap.size ≤ C) : Dis u v := by
  rcases hv : u.ownBlock with _ | k
  · exact .inl hv
  · refine .inr fun e => ?_
    rw [hv] at e
    have h1 := (h.lt k e.symm).2
    have h2 := (h'.lt k hv).1
    omega
theorem drop_get {α : Type} (zs : List α) (k : Nat) (h : k < zs.length) : zs.drop k = zs[k] :: zs.drop (k + 1) := List.drop_eq_getElem_cons h

section
variable {H : Type} {enc : TypeId × Value → H}
theorem underInts : Try.prog.underlying 27 = some (.slice 3) := Try.underlying27
theorem underInt : Try.prog.underlying 3 = some (.int .i64) := Try.underlying3
theorem infoInt : (Try.prog.info? 3).map (fun i => (i.zero, i.size, i.bytes)) = some (some (.int .i64 0), 1, 8) := by kernel_rfl
theorem cellsInt : Try.prog.cellsOf 3 = 1 := by kernel_rfl
/-- An argument of type []int reads as a list. -/
theorem open_rdI {W : World} {r : Reach} {base : Nat} {v : Value} {d : DataW H} {p : List MemPlace} (hv : Value.okWide Try.prog W r base 27 v) (h : DataW.Trod enc Try.prog W 0 (fun _ => true) true 27 v d p) :
    ∃ zs : List Int, RdI W v zs ∧ ∀ n ∈ zs, -9223372036854775808 ≤ n ∧ n ≤ 9223372036854775807 := by
  obtain ⟨a1, len, cap, rfl⟩ := okWide_slice underInts hv
  obtain ⟨fuel, hf⟩ := h
  rcases open_ints underInts underInt cellsInt hf with ⟨hcs, hx⟩ | ⟨a, len', cap', zs, hcs, _, hl, hm, hz, hx, hcell, hwz⟩
  · simp [Value.cells] at hcs
    obtain ⟨rfl, rfl, rfl⟩ := hcs
    exact ⟨[], OwI.rd (OwI.nil W 0), by simp⟩
  · simp [Value.cells] at hcs
    obtain ⟨rfl, rfl, rfl⟩ := hcs
    simp only [ite_true] at hz
    rw [maxLen_eq] at hm
    have hlen : (zs.take len).length = len := by rw [List.length_take]; omega
    refine ⟨zs.take len, ?_, fun n hn => ?_⟩
    · unfold RdI
      rw [hlen]
      by_cases h0 : len = 0
      · subst h0
        exact ⟨some a, cap, 0, 0, rfl, hl, hm, by simp [ints], by simp [ints]⟩
      · obtain ⟨b, off, rfl, hc⟩ := ints_at hcell (by omega)
        refine ⟨_, cap, b, off, rfl, hl, hm, fun _ => rfl, fun j u hj => ?_⟩
        rw [ints_get, List.getElem?_take] at hj
        split at hj
        · have hjl : j < zs.length := by omega
          rw [List.getElem?_eq_getElem hjl] at hj
          simp at hj
          subst hj
          rw [hc j hjl]
          simp [hjl]
        · simp at hj
    · have hw := hwz n (List.mem_of_mem_take hn)
      exact bounds_i64 hw
end
end Go.Proofs.Ytfedhjfijcnpdaa
