/- Slices in memory: what a slice of whole numbers reads as (RdI), and a slice of the call's own (OwI); how both go on behind calls and stores. Plain lemmas, no program text. -/
import Derived.Test.YtbjihlohaoohgaaBase
import Derived.Deep.OwnRows
namespace Go.Proofs.Ytbjihlohaoohgaa
open Go.ChangeShapes Go.WideShapes Go.ChangeAt Go.RowKit Go.Joins

theorem maxLen_eq : maxLen = 9223372036854775807 := by simp [maxLen]

/-- v reads in w as a slice of n elements whose cells are cs. -/
def Rd (w : World) (v : Value) (n : Nat) (cs : List Value) : Prop :=
  ∃ (a : Option Addr) (cap b off : Nat), v = .slice a n cap ∧ n ≤ cap ∧ cap ≤ 9223372036854775807 ∧ (0 < cs.length → a = some ⟨b, off, none⟩) ∧ ∀ j u, cs[j]? = some u → w.cell? ⟨b, off + j, none⟩ = some u

theorem Rd.below {w w' : World} {v : Value} {n : Nat} {cs : List Value} (h : Rd w v n cs) (hb : Below w.heap.size w w') : Rd w' v n cs := by
  obtain ⟨a, cap, b, off, hv, h1, h2, h3, h4⟩ := h
  refine ⟨a, cap, b, off, hv, h1, h2, h3, fun j u hj => ?_⟩
  have hc := h4 j u hj
  rw [hb.cell (p := ⟨b, off + j, none⟩) (block_lt_of_cell hc)]
  exact hc

theorem Rd.of_own {w : World} {B e sz : Nat} {v : Value} {n : Nat} {cs : List Value} (h : w.ownsRow B e sz v n cs) : Rd w v n cs := by
  obtain ⟨hl, h⟩ := h
  rcases h with ⟨rfl, rfl⟩ | ⟨g, cap, cur, rfl, hg, hh, hn, hm, hs, ht⟩
  · refine ⟨none, 0, 0, 0, rfl, Nat.le_refl _, by omega, fun h0 => ?_, fun j u hj => ?_⟩
    · rw [hl] at h0; omega
    · have : cs = [] := List.eq_nil_of_length_eq_zero (by rw [hl]; omega)
      subst this; simp at hj
  · refine ⟨some ⟨g, 0, none⟩, cap, g, 0, rfl, hn, by rw [maxLen_eq] at hm; exact hm, fun _ => rfl, fun j u hj => ?_⟩
    rw [Nat.zero_add, cell_of_row w g j cur e (0, 0) hh]
    rw [← ht, List.getElem?_take] at hj
    split at hj
    · simpa using hj
    · cases hj

theorem own_below {w w' : World} {B e sz : Nat} {v : Value} {n : Nat} {cs : List Value} (h : w.ownsRow B e sz v n cs) (hb : Below w.heap.size w w') : w'.ownsRow B e sz v n cs := by
  obtain ⟨h1, h2⟩ := h
  refine ⟨h1, ?_⟩
  rcases h2 with h2 | ⟨g, cap, cur, hv, hg, hh, r⟩
  · exact .inl h2
  · exact .inr ⟨g, cap, cur, hv, hg, by rw [hb.block g (Array.getElem?_eq_some_iff.1 hh).1]; exact hh, r⟩
/-- .. the same where only what lies below B' has stayed. -/
theorem own_below_lt {w w' : World} {B B' e sz : Nat} {v : Value} {n : Nat} {cs : List Value} (h : w.ownsRow B e sz v n cs) (hb : Below B' w w') (hv : ∀ k, v.ownBlock = some k → k < B') : w'.ownsRow B e sz v n cs := by
  obtain ⟨h1, h2⟩ := h
  refine ⟨h1, ?_⟩
  rcases h2 with h2 | ⟨g, cap, cur, rfl, hg, hh, r⟩
  · exact .inl h2
  · exact .inr ⟨g, cap, cur, rfl, hg, by rw [hb.block g (hv g rfl)]; exact hh, r⟩
theorem own_base {w : World} {B B' e sz : Nat} {v : Value} {n : Nat} {cs : List Value} (h : w.ownsRow B e sz v n cs) (hB : B' ≤ B) : w.ownsRow B' e sz v n cs := by
  obtain ⟨h1, h2⟩ := h
  refine ⟨h1, ?_⟩
  rcases h2 with h2 | ⟨g, cap, cur, hv, hg, r⟩
  · exact .inl h2
  · exact .inr ⟨g, cap, cur, hv, Nat.le_trans hB hg, r⟩

/-- Whole numbers as cells. -/
def ints (zs : List Int) : List Value := zs.map (Value.int .i64)
theorem ints_length (zs : List Int) : (ints zs).length = zs.length := by simp [ints]
theorem ints_append (xs ys : List Int) : ints (xs ++ ys) = ints xs ++ ints ys := by simp [ints]
theorem ints_get (zs : List Int) (j : Nat) : (ints zs)[j]? = (zs[j]?).map (Value.int .i64) := by simp [ints]
theorem ints_one (zs : List Int) : ∀ u ∈ ints zs, u.oneCell' = true := by
  intro u hu
  obtain ⟨z, _, rfl⟩ := List.mem_map.1 hu
  rfl
/-- v reads in w as the list zs. -/
def RdI (w : World) (v : Value) (zs : List Int) : Prop := Rd w v zs.length (ints zs)
/-- v is a slice of the call's own (its block from B on) that holds zs. -/
def OwI (w : World) (B : Nat) (v : Value) (zs : List Int) : Prop := w.ownsRow B 3 1 v zs.length (ints zs)
theorem RdI.below {w w' : World} {v : Value} {zs : List Int} (h : RdI w v zs) (hb : Below w.heap.size w w') : RdI w' v zs := Rd.below h hb
theorem OwI.rd {w : World} {B : Nat} {v : Value} {zs : List Int} (h : OwI w B v zs) : RdI w v zs := Rd.of_own h
theorem OwI.below {w w' : World} {B : Nat} {v : Value} {zs : List Int} (h : OwI w B v zs) (hb : Below w.heap.size w w') : OwI w' B v zs := own_below h hb
theorem OwI.lt {w : World} {B : Nat} {v : Value} {zs : List Int} (h : OwI w B v zs) : ∀ k, v.ownBlock = some k → B ≤ k ∧ k < w.heap.size := World.ownsRow.lt h
theorem OwI.base {w : World} {B B' : Nat} {v : Value} {zs : List Int} (h : OwI w B v zs) (hB : B' ≤ B) : OwI w B' v zs := own_base h hB
theorem OwI.nil (w : World) (B : Nat) : OwI w B (.slice none 0 0) [] := World.ownsRow_nil _ _ _ _

/-- The parts of RdI that a walk wants. -/
theorem RdI.open {w : World} {v : Value} {zs : List Int} (h : RdI w v zs) : ∃ (a : Option Addr) (cap b off : Nat), v = .slice a zs.length cap ∧ zs.length ≤ cap ∧ cap ≤ 9223372036854775807 ∧
    (0 < zs.length → a = some ⟨b, off, none⟩) ∧ ∀ k, k < zs.length → w.cell? ⟨b, off + k, none⟩ = some (.int .i64 (zs.getD k 0)) := by
  obtain ⟨a, cap, b, off, hv, h1, h2, h3, h4⟩ := h
  refine ⟨a, cap, b, off, hv, h1, h2, by simpa [ints] using h3, fun k hk => h4 k _ ?_⟩
  rw [ints_get, List.getElem?_eq_getElem hk]
  simp [hk]
theorem drop_get {α : Type} (zs : List α) (k : Nat) (h : k < zs.length) : zs.drop k = zs[k] :: zs.drop (k + 1) := List.drop_eq_getElem_cons h

section
variable {H : Type} {enc : TypeId × Value → H}
theorem underInts : Try.prog.underlying 42 = some (.slice 3) := Try.underlying42
theorem underInt : Try.prog.underlying 3 = some (.int .i64) := Try.underlying3
theorem infoInt : (Try.prog.info? 3).map (fun i => (i.zero, i.size, i.bytes)) = some (some (.int .i64 0), 1, 8) := by kernel_rfl
theorem cellsInt : Try.prog.cellsOf 3 = 1 := by kernel_rfl
/-- An argument of type []int reads as a list. -/
theorem open_rdI {W : World} {r : Reach} {base : Nat} {v : Value} {d : DataW H} {p : List MemPlace} (hv : Value.okWide Try.prog W r base 42 v) (h : DataW.Trod enc Try.prog W 0 (fun _ => true) true 42 v d p) :
    ∃ zs : List Int, RdI W v zs ∧ ∀ n ∈ zs, -9223372036854775808 ≤ n ∧ n ≤ 9223372036854775807 := by
  obtain ⟨a1, len, cap, rfl⟩ := okWide_slice underInts hv
  obtain ⟨fuel, hf⟩ := h
  rcases open_ints underInts underInt cellsInt hf with ⟨hcs, hx⟩ | ⟨a, len', cap', zs, hcs, _, hl, hm, hz, hx, hcell, hwz⟩
  · simp [Value.cells] at hcs
    obtain ⟨rfl, rfl, rfl⟩ := hcs
    exact ⟨[], OwI.rd (OwI.nil W 0), by simp⟩
  · simp [Value.cells] at hcs
    obtain ⟨rfl, rfl, rfl⟩ := hcs
    simp only [ite_true] at hz
    rw [maxLen_eq] at hm
    have hlen : (zs.take len).length = len := by rw [List.length_take]; omega
    refine ⟨zs.take len, ?_, fun n hn => ?_⟩
    · unfold RdI
      rw [hlen]
      by_cases h0 : len = 0
      · subst h0
        exact ⟨some a, cap, 0, 0, rfl, hl, hm, by simp [ints], by simp [ints]⟩
      · obtain ⟨b, off, rfl, hc⟩ := ints_at hcell (by omega)
        refine ⟨_, cap, b, off, rfl, hl, hm, fun _ => rfl, fun j u hj => ?_⟩
        rw [ints_get, List.getElem?_take] at hj
        split at hj
        · have hjl : j < zs.length := by omega
          rw [List.getElem?_eq_getElem hjl] at hj
          simp at hj
          subst hj
          rw [hc j hjl]
          simp [hjl]
        · simp at hj
    · have hw := hwz n (List.mem_of_mem_take hn)
      exact bounds_i64 hw
end
end Go.Proofs.Ytbjihlohaoohgaa
