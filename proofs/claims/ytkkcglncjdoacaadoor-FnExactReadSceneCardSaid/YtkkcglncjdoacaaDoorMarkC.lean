/- The laws' marks on a cue of the call's own: markCue writes, heldCue reads them back. -/
import Derived.Test.YtkkcglncjdoacaaDoorRdC
import Derived.Test.YtkkcglncjdoacaaDoorInts
namespace Go.Proofs.YtkkcglncjdoacaaDoor
open Go.ChangeShapes Go.WideShapes Go.ChangeAt Go.RowKit Go.Joins
set_option linter.unusedSimpArgs false
set_option linter.unusedVariables false
set_option maxRecDepth 20000

theorem markCue_any (t q : Int) (a p : List Int) (hq : 0 ≤ q) (hq2 : q + a.length + p.length ≤ 1099511627776) (B : Nat) (u1 u2 : Value) (w : World) (h1 : OwI w B u1 a) (h2 : OwI w B u2 p) (hd : Dis u1 u2) :
    Calls Tryd.prog 34 #[.agg #[.int .i64 t, u1, u2], .int .i64 q] w fun e w' => e = .returned (.int .i64 (q + a.length + p.length)) ∧ OwI w' B u1 (marks q a.length) ∧ OwI w' B u2 (marks (q + a.length) p.length) ∧
      ∃ wb, (w.alloc (.cells #[.int .i64 t, u1, u2] 31)).grownBy wb u1.ownBlock ∧ wb.grownBy w' u2.ownBlock := by
  obtain ⟨a1, c1, rfl⟩ := h1.rd.shape
  obtain ⟨a2, c2, rfl⟩ := h2.rd.shape
  have hb := below_alloc1 w (.cells #[.int .i64 t, .slice a1 a.length c1, .slice a2 p.length c2] 31)
  have n1 : some w.heap.size ≠ (Value.slice a1 a.length c1).ownBlock := fun e => by have := (h1.lt _ e.symm).2; omega
  have n2 : some w.heap.size ≠ (Value.slice a2 p.length c2).ownBlock := fun e => by have := (h2.lt _ e.symm).2; omega
  replace h1 := h1.below hb
  replace h2 := h2.below hb
  have k1 : (w.alloc (.cells #[.int .i64 t, .slice a1 a.length c1, .slice a2 p.length c2] 31)).cell? ⟨w.heap.size, 1, none⟩ = some (.slice a1 a.length c1) := by simp [go_sem]
  have k2 : (w.alloc (.cells #[.int .i64 t, .slice a1 a.length c1, .slice a2 p.length c2] 31)).cell? ⟨w.heap.size, 2, none⟩ = some (.slice a2 p.length c2) := by simp [go_sem]
  have HK := Lib.hid (And.intro h1 (And.intro h2 (And.intro k1 k2)))
  clear h1 h2 k1 k2 hb
  go_enter Tryd.func34, Tryd.ntmps34
  go_wp2_with (fail)
  generalize hw1 : w.alloc (.cells #[.int .i64 t, .slice a1 a.length c1, .slice a2 p.length c2] 31) = w1 at HK ⊢
  have HW := Lib.hid hw1
  clear hw1
  obtain ⟨h1, h2, k1, k2⟩ := HK.out
  clear HK
  refine (markIntS_any a q hq (by omega) B _ _ h1).mono ?_
  rintro e w2 ⟨rfl, o1, hg⟩
  replace h2 := h2.kept hg hd.symm
  replace k2 := hg.cell k2 n1
  have HG := Lib.hid hg
  clear hg k1 h1
  have q1 : IntKind.i64.wrap (q + (a.length : Int)) = q + (a.length : Int) := IntWalk.i64_in _ (by omega)
  go_wp2_with (fail)
  refine (markIntS_any p (q + a.length) (by omega) (by omega) B _ _ h2).mono ?_
  rintro e w3 ⟨rfl, o2, hg⟩
  replace o1 := o1.kept hg hd
  have HG2 := Lib.hid hg
  clear hg k2 h2
  go_wp2_with (fail)
  go_ret
  exact ⟨rfl, o1, o2, w2, by rw [HW.out]; exact HG.out, HG2.out⟩
theorem heldCue_any (t q : Int) (m n : Nat) (hq : 0 ≤ q) (hq2 : q + m + n ≤ 1099511627776) (u1 u2 : Value) (w : World) (h1 : RdI w u1 (marks q m)) (h2 : RdI w u2 (marks (q + m) n)) :
    Calls Tryd.prog 35 #[.agg #[.int .i64 t, u1, u2], .int .i64 q] w fun e w' => e = .returned (.int .i64 (q + m + n)) ∧ Below w.heap.size w w' := by
  obtain ⟨a1, c1, rfl⟩ := h1.shape
  obtain ⟨a2, c2, rfl⟩ := h2.shape
  simp only [marks_length] at h1 h2 ⊢
  have hb := below_alloc1 w (.cells #[.int .i64 t, .slice a1 m c1, .slice a2 n c2] 31)
  replace h1 := h1.below hb
  replace h2 := h2.below hb
  have k1 : (w.alloc (.cells #[.int .i64 t, .slice a1 m c1, .slice a2 n c2] 31)).cell? ⟨w.heap.size, 1, none⟩ = some (.slice a1 m c1) := by simp [go_sem]
  have k2 : (w.alloc (.cells #[.int .i64 t, .slice a1 m c1, .slice a2 n c2] 31)).cell? ⟨w.heap.size, 2, none⟩ = some (.slice a2 n c2) := by simp [go_sem]
  have HK := Lib.hid (And.intro hb (And.intro h1 (And.intro h2 (And.intro k1 k2))))
  clear h1 h2 k1 k2 hb
  go_enter Tryd.func35, Tryd.ntmps35
  go_wp2_with (fail)
  generalize w.alloc (.cells #[.int .i64 t, .slice a1 m c1, .slice a2 n c2] 31) = w1 at HK ⊢
  obtain ⟨hb, h1, h2, k1, k2⟩ := HK.out
  clear HK
  refine (heldIntS_any m q hq (by omega) _ _ h1).mono ?_
  rintro e w2 ⟨rfl, rfl⟩
  have q1 : ¬ (q + (m : Int)) < 0 := by omega
  go_wp2_with (fail)
  refine (heldIntS_any n (q + m) (by omega) (by omega) _ _ h2).mono ?_
  rintro e w3 ⟨rfl, rfl⟩
  have q2 : ¬ (q + (m : Int) + (n : Int)) < 0 := by omega
  go_wp2_with (fail)
  go_ret
  exact ⟨rfl, hb⟩
end Go.Proofs.YtkkcglncjdoacaaDoor
