/- copyOf and WithoutString of both. -/
import Derived.Test.YtfedhjfijcnpdaaApp
import Derived.Test.YtfedhjfijcnpdaaInts
namespace Go.Proofs.Ytfedhjfijcnpdaa
open Go.ChangeShapes Go.WideShapes Go.ChangeAt Go.RowKit Go.Joins

theorem copyOf_any (zs : List Int) (hn : zs.length ≤ 1048576) (v : Value) (w : World) (h : RdI w v zs) :
    Calls Try.prog 46 #[v] w fun e w' => ∃ u, e = .returned u ∧ OwI w' w.heap.size u zs ∧ Below w.heap.size w w' := by
  have hB := below_alloc1 w (.cells #[] 3)
  have hr := h.below hB
  go_enter Try.func46, Try.ntmps46
  go_wp2_with (at_builtin; refine wpList_appI rfl (.tmp 3) (.tmp 4) rfl _ w.heap.size _ [] rfl (OwI.empty w _ (Nat.le_refl _)) _ zs rfl hr (by simp; omega) (by simp) ?_; intro v1 w1 ho hg _)
  go_ret
  exact ⟨_, rfl, ho, (OwI.empty w _ (Nat.le_refl _)).grown_below hB (Nat.le_refl _) hg⟩

def withoutString (zs : List Int) (j : Int) : List Int := if inB j 0 (zs.length - 1) = true then zs.set j.toNat (-1) else zs
theorem withoutString_length (zs : List Int) (j : Int) : (withoutString zs j).length = zs.length := by
  unfold withoutString; split <;> simp
theorem implWithoutString_any (zs : List Int) (j : Int) (hn : zs.length ≤ 1048576) (v : Value) (w : World) (h : RdI w v zs) :
    Calls Try.prog 17 #[v, .int .i64 j] w fun e w' => ∃ u, e = .returned u ∧ OwI w' w.heap.size u (withoutString zs j) ∧ Below w.heap.size w w' := by
  obtain ⟨a, cap, rfl⟩ := h.shape
  by_cases hg : inB j 0 (zs.length - 1) = true
  · have hp : withoutString zs j = zs.set j.toNat (-1) := if_pos hg
    rw [hp]
    clear hp
    obtain ⟨h1, h2⟩ := inB_true.1 hg
    obtain ⟨k, rfl⟩ : ∃ k : Nat, j = (k : Int) := ⟨j.toNat, by omega⟩
    have hk : k < zs.length := by omega
    have HR := Lib.hid h
    clear h
    go_enter Try.func17, Try.ntmps17
    go_wp2_with (fail)
    refine (copyOf_any zs hn _ _ HR.out).mono ?_
    rintro e w1 ⟨u, rfl, o, hb⟩
    obtain ⟨A, cap1, rfl, hc1, hc2, hA⟩ := o.form
    obtain ⟨g, rfl, hg1, hg2⟩ := hA (by omega)
    clear hA
    obtain ⟨hd, hf⟩ := o.cell hk
    have ho2 := (o.set k (-1)).1
    have hB2 : Below w.heap.size w (w1.setCell ⟨g, k, none⟩ (.int .i64 (-1))) := hb.setCell hg1 _
    have HO := Lib.hid ho2
    clear ho2 o hb
    go_wp2_with (go_at_call 49; refine (within_any _ _ _ _).mono ?_; rintro e w' ⟨rfl, rfl⟩)
    go_ret
    refine ⟨_, rfl, ?_, hB2⟩
    exact HO.out
  · have hp : withoutString zs j = zs := if_neg hg
    rw [hp]
    clear hp
    have hg' : inB j 0 (zs.length - 1) = false := by simpa using hg
    clear hg
    have HR := Lib.hid h
    clear h
    go_enter Try.func17, Try.ntmps17
    go_wp2_with (fail)
    refine (copyOf_any zs hn _ _ HR.out).mono ?_
    rintro e w1 ⟨u, rfl, o, hb⟩
    go_wp2_with (go_at_call 49; refine (within_any _ _ _ _).mono ?_; rintro e w' ⟨rfl, rfl⟩)
    go_ret
    exact ⟨_, rfl, o, hb⟩
theorem specWithoutString_any (zs : List Int) (j : Int) (hn : zs.length ≤ 1048576) (v : Value) (w : World) (h : RdI w v zs) :
    Calls Try.prog 58 #[v, .int .i64 j] w fun e w' => ∃ u, e = .returned u ∧ OwI w' w.heap.size u (withoutString zs j) ∧ Below w.heap.size w w' := by
  have hB := below_alloc1 w (.cells #[] 3)
  have hr := h.below hB
  by_cases hg : inB j 0 (zs.length - 1) = true
  · have hp : withoutString zs j = zs.set j.toNat (-1) := if_pos hg
    rw [hp]
    clear hp
    obtain ⟨h1, h2⟩ := inB_true.1 hg
    obtain ⟨k, rfl⟩ : ∃ k : Nat, j = (k : Int) := ⟨j.toNat, by omega⟩
    have hk : k < zs.length := by omega
    go_enter Try.func58, Try.ntmps58
    go_wp2_with (first
      | (at_builtin; refine wpList_appI rfl (.tmp 6) (.tmp 7) rfl _ w.heap.size _ [] rfl (OwI.empty w _ (Nat.le_refl _)) _ zs rfl hr (by simp; omega) (by simp) ?_; intro v1 w1 o hgr _; obtain ⟨A, cap1, rfl, hc1, hc2, hA⟩ := o.form; simp only [List.nil_append] at o hA hc1 hc2; obtain ⟨g, rfl, hg1, hg2⟩ := hA (by omega); have hb := (OwI.empty w _ (Nat.le_refl _)).grown_below hB (Nat.le_refl _) hgr; clear hA hgr)
      | fail)
    obtain ⟨hd, hf⟩ := o.cell hk
    have ho2 := (o.set k (-1)).1
    have hB2 : Below w.heap.size w (w1.setCell ⟨g, k, none⟩ (.int .i64 (-1))) := hb.setCell hg1 _
    have HO := Lib.hid ho2
    clear ho2 o hb
    go_wp2_with (go_at_call 56; refine (l01In_any _ _ _ _).mono ?_; rintro e w' ⟨rfl, rfl⟩)
    go_ret
    refine ⟨_, rfl, ?_, hB2⟩
    exact HO.out
  · have hp : withoutString zs j = zs := if_neg hg
    rw [hp]
    clear hp
    have hg' : inB j 0 (zs.length - 1) = false := by simpa using hg
    clear hg
    go_enter Try.func58, Try.ntmps58
    go_wp2_with (first
      | (at_builtin; refine wpList_appI rfl (.tmp 6) (.tmp 7) rfl _ w.heap.size _ [] rfl (OwI.empty w _ (Nat.le_refl _)) _ zs rfl hr (by simp; omega) (by simp) ?_; intro v1 w1 o hgr _; obtain ⟨A, cap1, rfl, hc1, hc2, hA⟩ := o.form; simp only [List.nil_append] at o hA hc1 hc2; have hb := (OwI.empty w _ (Nat.le_refl _)).grown_below hB (Nat.le_refl _) hgr; clear hA hgr)
      | (go_at_call 56; refine (l01In_any _ _ _ _).mono ?_; rintro e w' ⟨rfl, rfl⟩))
    go_ret
    exact ⟨_, rfl, o, hb⟩
end Go.Proofs.Ytfedhjfijcnpdaa
