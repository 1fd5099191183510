/- The walks of NotesOk and WeightOf. -/
import Derived.Test.YtcplfempajfcdaaHlNote
namespace Go.Proofs.Ytcplfempajfcdaa
open Go.ChangeShapes Go.WideShapes Go.ChangeAt Go.RowKit Go.Joins
set_option linter.unusedSimpArgs false
set_option linter.unusedVariables false

def noteB (x : Int × Int × Int) : Bool := inB x.1 0 11 && inB x.2.1 0 5 && inB x.2.2 1 9
def allNotes (zs : List (Int × Int × Int)) : Bool := zs.all noteB
theorem allNotes_cons (x : Int × Int × Int) (r : List (Int × Int × Int)) : allNotes (x :: r) = (noteB x && allNotes r) := rfl
def notesB (zs : List (Int × Int × Int)) : Bool := allNotes zs && decide (zs.length ≤ 40)
theorem noteB_no1 {a b c : Int} (h : ¬ inB a 0 11 = true) : noteB (a, b, c) = false := by simp [noteB, h]
theorem noteB_no2 {a b c : Int} (h : ¬ inB b 0 5 = true) : noteB (a, b, c) = false := by simp [noteB, h]
theorem noteB_no3 {a b c : Int} (h : ¬ inB c 1 9 = true) : noteB (a, b, c) = false := by simp [noteB, h]
theorem noteB_bd {x : Int × Int × Int} (h : noteB x = true) : (0 ≤ x.1 ∧ x.1 ≤ 11) ∧ (0 ≤ x.2.1 ∧ x.2.1 ≤ 5) ∧ (1 ≤ x.2.2 ∧ x.2.2 ≤ 9) := by
  simp only [noteB, Bool.and_eq_true] at h
  exact ⟨inB_true.1 h.1.1, inB_true.1 h.1.2, inB_true.1 h.2⟩
theorem notesB_bd {zs : List (Int × Int × Int)} (h : notesB zs = true) : zs.length ≤ 40 ∧ ∀ x ∈ zs, (0 ≤ x.1 ∧ x.1 ≤ 11) ∧ (0 ≤ x.2.1 ∧ x.2.1 ≤ 5) ∧ (1 ≤ x.2.2 ∧ x.2.2 ≤ 9) := by
  simp only [notesB, Bool.and_eq_true, decide_eq_true_eq] at h
  exact ⟨h.2, fun x hx => noteB_bd (List.all_eq_true.1 h.1 x hx)⟩
theorem drop_get? {α : Type} {zs : List α} {k : Nat} {x : α} (h : zs[k]? = some x) : zs.drop k = x :: zs.drop (k + 1) := by
  have hk := (List.getElem?_eq_some_iff.1 h).1
  rw [List.drop_eq_getElem_cons hk]
  congr 1
  exact (List.getElem?_eq_some_iff.1 h).2
theorem specNotesOk_any (zs : List (Int × Int × Int)) (v : Value) (w : World) (h : RdNote w v zs) : Calls Try.prog 11 #[v] w fun e w' => e = .returned (.bool (notesB zs)) ∧ Below w.heap.size w w' := by
  obtain ⟨ad, cap, bl, off, rfl, hcap, hmax, had, hc⟩ := h.open
  have HC := Lib.hid hc
  clear h hc
  go_enter Try.func11, Try.ntmps11
  go_wp2
  go_loop [3] (fun i => ∃ k : Nat, k ≤ zs.length ∧ i = .int .i64 k ∧ Hid (allNotes (zs.drop k) = allNotes zs)) (fun i => zs.length - (intOf i).toNat)
  case atStart => exact ⟨0, Nat.zero_le _, rfl, rfl⟩
  case round =>
    obtain ⟨k, hk, rfl, H⟩ := hrel
    by_cases hlt : k < zs.length
    · obtain rfl := had (by omega)
      obtain ⟨⟨x0, x1, x2⟩, hx⟩ : ∃ x, zs[k]? = some x := ⟨_, List.getElem?_eq_getElem hlt⟩
      have hsrc : w.cell? ⟨bl, off + k * 3, none⟩ = some (.int .i64 x0) ∧ w.cell? ⟨bl, off + k * 3 + 1, none⟩ = some (.int .i64 x1) ∧ w.cell? ⟨bl, off + k * 3 + 2, none⟩ = some (.int .i64 x2) := by
        have h1 := HC.out k hlt
        rw [List.getD_eq_getElem?_getD, hx] at h1
        exact ⟨h1.1, h1.2.1, h1.2.2⟩
      obtain ⟨hck0, hck1, hck2⟩ := hsrc
      have HX := Lib.hid (And.intro (drop_get? hx) (List.mem_of_getElem? hx))
      clear hx
      by_cases hx : noteB (x0, x1, x2) = true
      · obtain ⟨⟨i0, i1⟩, i2⟩ : (inB x0 0 11 = true ∧ inB x1 0 5 = true) ∧ inB x2 1 9 = true := by simpa [noteB] using hx
        have HN := Lib.hid hx
        clear hx
        go_wp2_with (go_at_call 33; refine (l01In_any _ _ _ _).mono ?_; rintro e w' ⟨rfl, rfl⟩)
        exact ⟨⟨k + 1, by omega, by go_num, by show _ = _; rw [← H.out, HX.out.1, allNotes_cons, HN.out]; rfl⟩, by simp [intOf]; omega⟩
      · have hno : notesB zs = false := by
          have : noteB (x0, x1, x2) = false := by simpa using hx
          rw [notesB, ← H.out, HX.out.1, allNotes_cons, this]; rfl
        have HN := Lib.hid hno
        have hx' : ¬ ((inB x0 0 11 = true ∧ inB x1 0 5 = true) ∧ inB x2 1 9 = true) := by simpa [noteB] using hx
        clear hno hx
        go_wp2_with (go_at_call 33; refine (l01In_any _ _ _ _).mono ?_; rintro e w' ⟨rfl, rfl⟩)
        all_goals first | (exfalso; simp_all; done) | (go_ret; exact ⟨ret_bool (by rw [HN.out]), Below.refl _ _⟩)
    · go_wp2
      go_ret
      obtain rfl : k = zs.length := by omega
      have hal : allNotes zs = true := by rw [← H.out, List.drop_length]; rfl
      exact ⟨ret_bool (by rw [notesB, hal, Bool.true_and]; exact decide_eq_decide.2 (by omega)), Below.refl _ _⟩
theorem implNotesOk_any (zs : List (Int × Int × Int)) (v : Value) (w : World) (h : RdNote w v zs) : Calls Try.prog 13 #[v] w fun e w' => e = .returned (.bool (notesB zs)) ∧ Below w.heap.size w w' := by
  obtain ⟨ad, cap, bl, off, rfl, hcap, hmax, had, hc⟩ := h.open
  have HC := Lib.hid hc
  clear h hc
  go_enter Try.func13, Try.ntmps13
  go_wp2
  go_loopw [7] (fun i wr => ∃ k : Nat, k ≤ zs.length ∧ i = .int .i64 k ∧ Below w.heap.size w wr ∧ Hid (allNotes (zs.drop k) = allNotes zs)) (fun i _ => zs.length - (intOf i).toNat)
  case atStart => exact ⟨0, Nat.zero_le _, rfl, Below.refl _ _, rfl⟩
  case round =>
    obtain ⟨k, hk, rfl, hB, H⟩ := hrel
    by_cases hlt : k < zs.length
    · obtain rfl := had (by omega)
      obtain ⟨⟨x0, x1, x2⟩, hx⟩ : ∃ x, zs[k]? = some x := ⟨_, List.getElem?_eq_getElem hlt⟩
      have hsrc : wr.cell? ⟨bl, off + k * 3, none⟩ = some (.int .i64 x0) ∧ wr.cell? ⟨bl, off + k * 3 + 1, none⟩ = some (.int .i64 x1) ∧ wr.cell? ⟨bl, off + k * 3 + 2, none⟩ = some (.int .i64 x2) := by
        have h1 := HC.out k hlt
        rw [List.getD_eq_getElem?_getD, hx] at h1
        exact ⟨cell_on hB h1.1, cell_on hB h1.2.1, cell_on hB h1.2.2⟩
      obtain ⟨hck0, hck1, hck2⟩ := hsrc
      have HX := Lib.hid (And.intro (drop_get? hx) (List.mem_of_getElem? hx))
      clear hx
      have hB2 := hB.alloc hB.size (.cells #[.int .i64 x0, .int .i64 x1, .int .i64 x2] 42)
      by_cases hx : noteB (x0, x1, x2) = true
      · obtain ⟨⟨i0, i1⟩, i2⟩ : (inB x0 0 11 = true ∧ inB x1 0 5 = true) ∧ inB x2 1 9 = true := by simpa [noteB] using hx
        have HN := Lib.hid hx
        clear hx
        go_wp2_with (go_at_call 35; refine (within_any _ _ _ _).mono ?_; rintro e w' ⟨rfl, rfl⟩)
        exact ⟨⟨k + 1, by omega, by go_num, hB2, by show _ = _; rw [← H.out, HX.out.1, allNotes_cons, HN.out]; rfl⟩, by simp [intOf]; omega⟩
      · have hno : notesB zs = false := by
          have : noteB (x0, x1, x2) = false := by simpa using hx
          rw [notesB, ← H.out, HX.out.1, allNotes_cons, this]; rfl
        have HN := Lib.hid hno
        have hx' : ¬ ((inB x0 0 11 = true ∧ inB x1 0 5 = true) ∧ inB x2 1 9 = true) := by simpa [noteB] using hx
        clear hno hx
        go_wp2_with (go_at_call 35; refine (within_any _ _ _ _).mono ?_; rintro e w' ⟨rfl, rfl⟩)
        all_goals first | (exfalso; simp_all; done) | (go_ret; exact ⟨ret_bool (by rw [HN.out]), hB2⟩)
    · go_wp2
      go_ret
      obtain rfl : k = zs.length := by omega
      have hal : allNotes zs = true := by rw [← H.out, List.drop_length]; rfl
      exact ⟨ret_bool (by rw [notesB, hal, Bool.true_and]; exact decide_eq_decide.2 (by omega)), hB⟩
theorem walkFnExactNotesOk (zs : List (Int × Int × Int)) (vzs : Value) (w : World) (hzs : RdNote w vzs zs) : Calls Try.prog 3 #[vzs] w fun e w' => e = .returned (.bool true) ∧ Below w.heap.size w w' := by
  have hmxzs : zs.length ≤ 9223372036854775807 := by obtain ⟨_, _, _, _, _, h1, h2, _⟩ := hzs.open; omega
  obtain ⟨azs, capzs, rfl⟩ := hzs.shape
  by_cases hlzs : zs.length ≤ 1048576
  · skip
    have hB := Below.refl w.heap.size w
    go_enter Try.func3, Try.ntmps3
    go_wp2_with (fail)
    refine (szNoteS_ok _ _ _ _ (by omega) (by omega) _).mono ?_
    rintro e w' ⟨rfl, rfl⟩
    go_wp2_with (fail)
    refine (toNoteS_any zs (by omega) _ _ (hzs.below hB)).mono ?_
    rintro e w1 ⟨ut0, rfl, ot0, hb⟩
    have bt0 := hB.size
    replace hB := bvia hB hb
    clear hb
    go_wp2_with (fail)
    refine (specNotesOk_any zs  _ _ ot0.rd).mono ?_
    rintro e w2 ⟨rfl, hb⟩
    replace ot0 := ot0.below hb
    replace hB := bvia hB hb
    clear hb
    clear ot0
    go_wp2_with (fail)
    refine (toNoteS_any zs (by omega) _ _ (hzs.below hB)).mono ?_
    rintro e w3 ⟨ux0, rfl, ox0, hb⟩
    have bx0 := hB.size
    replace hB := bvia hB hb
    clear hb
    go_wp2_with (fail)
    refine (implNotesOk_any zs  _ _ ox0.rd).mono ?_
    rintro e w4 ⟨rfl, hb⟩
    replace ox0 := ox0.below hb
    replace hB := bvia hB hb
    clear hb
    go_wp2_with (fail)
    refine (toNoteS_any zs (by omega) _ _ (hzs.below hB)).mono ?_
    rintro e w5 ⟨uy0, rfl, oy0, hb⟩
    have dx0_y0 := dis_of ox0.lt oy0.lt (Nat.le_refl _)
    have dy0_x0 := dis_of' ox0.lt oy0.lt (Nat.le_refl _)
    have by0 := hB.size
    replace ox0 := ox0.below hb
    replace hB := bvia hB hb
    clear hb
    go_wp2_with (fail)
    refine (eqNoteS_any zs _ _ _ ox0.rd oy0.rd).mono ?_
    rintro e w6 ⟨rfl, hb⟩
    replace ox0 := ox0.below hb
    replace oy0 := oy0.below hb
    replace hB := bvia hB hb
    clear hb
    clear oy0
    go_wp2_with (fail)
    go_returns
    exact ⟨rfl, hB⟩
  · go_enter Try.func3, Try.ntmps3
    go_wp2_with (fail)
    refine (szNoteS_no _ _ _ (by have := hmxzs; omega) _ (by omega) (by omega) (by omega) _).mono ?_
    rintro e w' ⟨rfl, rfl⟩
    go_wp2_with (fail)
    go_returns
    exact ⟨rfl, Below.refl _ _⟩

def weightF (p : Int) : List (Int × Int × Int) → Int
  | [] => 0
  | x :: r => (if x.2.1 = p then x.2.2 else 0) + weightF p r
theorem weightF_hit {p : Int} {x : Int × Int × Int} (r : List (Int × Int × Int)) (h : x.2.1 = p) : weightF p (x :: r) = x.2.2 + weightF p r := by simp [weightF, h]
theorem weightF_miss {p : Int} {x : Int × Int × Int} (r : List (Int × Int × Int)) (h : x.2.1 ≠ p) : weightF p (x :: r) = weightF p r := by simp [weightF, h]
def weightOf (zs : List (Int × Int × Int)) (p : Int) : Int := if notesB zs = true then weightF p zs else -1
theorem specWeightOf_any (zs : List (Int × Int × Int)) (p : Int) (v : Value) (w : World) (h : RdNote w v zs) : Calls Try.prog 15 #[v, .int .i64 p] w fun e w' => e = .returned (.int .i64 (weightOf zs p)) ∧ Below w.heap.size w w' := by
  have HR := Lib.hid h
  obtain ⟨ad, cap, bl, off, rfl, hcap, hmax, had, hc⟩ := h.open
  have HC := Lib.hid hc
  clear h hc
  by_cases hg : notesB zs = true
  · have hp : weightOf zs p = weightF p zs := if_pos hg
    rw [hp]
    clear hp
    obtain ⟨hl40, hm⟩ := notesB_bd hg
    have HM := Lib.hid hm
    clear hm
    go_enter Try.func15, Try.ntmps15
    go_wp2_with (go_at_call 11; refine (specNotesOk_any zs _ _ HR.out).mono ?_; rintro e w1 ⟨rfl, hb⟩)
    go_loopw [5, 6] (fun t i wr => ∃ (k : Nat) (q : Int), k ≤ zs.length ∧ i = .int .i64 k ∧ t = .int .i64 q ∧ 0 ≤ q ∧ q ≤ 9 * k ∧ Below w.heap.size w wr ∧ Hid (q + weightF p (zs.drop k) = weightF p zs)) (fun _ i _ => zs.length - (intOf i).toNat)
    case atStart => exact ⟨0, 0, Nat.zero_le _, rfl, rfl, by omega, by omega, hb, by show _ = _; simp⟩
    case round =>
      obtain ⟨k, q, hk, rfl, rfl, q0, q1, hB, H⟩ := hrel
      by_cases hlt : k < zs.length
      · obtain rfl := had (by omega)
        obtain ⟨⟨x0, x1, x2⟩, hx⟩ : ∃ x, zs[k]? = some x := ⟨_, List.getElem?_eq_getElem hlt⟩
        have hsrc : wr.cell? ⟨bl, off + k * 3, none⟩ = some (.int .i64 x0) ∧ wr.cell? ⟨bl, off + k * 3 + 1, none⟩ = some (.int .i64 x1) ∧ wr.cell? ⟨bl, off + k * 3 + 2, none⟩ = some (.int .i64 x2) := by
          have h1 := HC.out k hlt
          rw [List.getD_eq_getElem?_getD, hx] at h1
          exact ⟨cell_on hB h1.1, cell_on hB h1.2.1, cell_on hB h1.2.2⟩
        obtain ⟨hck0, hck1, hck2⟩ := hsrc
        have HX := Lib.hid (And.intro (drop_get? hx) (List.mem_of_getElem? hx))
        clear hx
        obtain ⟨_, _, y0, y1⟩ := HM.out _ HX.out.2
        simp only [] at y0 y1
        by_cases hpl : x1 = p
        · subst hpl
          go_wp2
          exact ⟨⟨k + 1, q + x2, by omega, by go_num, rfl, by omega, by omega, hB, by show _ = _; rw [← H.out, HX.out.1, weightF_hit (x := (x0, x1, x2)) _ rfl]; dsimp only; omega⟩, by simp [intOf]; omega⟩
        · have hpb : (x1 == p) = false := beq_eq_false_iff_ne.2 hpl
          go_wp2
          exact ⟨⟨k + 1, q, by omega, by go_num, rfl, by omega, by omega, hB, by show _ = _; rw [← H.out, HX.out.1, weightF_miss (x := (x0, x1, x2)) _ hpl]⟩, by simp [intOf]; omega⟩
      · go_wp2
        go_ret
        obtain rfl : k = zs.length := by omega
        exact ⟨ret_int (by rw [← H.out, List.drop_length]; simp [weightF]), hB⟩
  · have hp : weightOf zs p = -1 := if_neg hg
    rw [hp]
    clear hp
    have hg' : notesB zs = false := by simpa using hg
    clear hg
    go_enter Try.func15, Try.ntmps15
    go_wp2_with (go_at_call 11; refine (specNotesOk_any zs _ _ HR.out).mono ?_; rintro e w1 ⟨rfl, hb⟩)
    go_ret
    exact ⟨rfl, hb⟩
theorem implWeightOf_any (zs : List (Int × Int × Int)) (p : Int) (v : Value) (w : World) (h : RdNote w v zs) : Calls Try.prog 16 #[v, .int .i64 p] w fun e w' => e = .returned (.int .i64 (weightOf zs p)) ∧ Below w.heap.size w w' := by
  have HR := Lib.hid h
  obtain ⟨ad, cap, bl, off, rfl, hcap, hmax, had, hc⟩ := h.open
  have HC := Lib.hid hc
  clear h hc
  by_cases hg : notesB zs = true
  · have hp : weightOf zs p = weightF p zs := if_pos hg
    rw [hp]
    clear hp
    obtain ⟨hl40, hm⟩ := notesB_bd hg
    have HM := Lib.hid hm
    clear hm
    go_enter Try.func16, Try.ntmps16
    go_wp2_with (go_at_call 13; refine (implNotesOk_any zs _ _ HR.out).mono ?_; rintro e w1 ⟨rfl, hb⟩)
    go_loopw [5, 13] (fun t i wr => ∃ (k : Nat) (q : Int), k ≤ zs.length ∧ i = .int .i64 k ∧ t = .int .i64 q ∧ 0 ≤ q ∧ q ≤ 9 * k ∧ Below w.heap.size w wr ∧ Hid (q + weightF p (zs.drop k) = weightF p zs)) (fun _ i _ => zs.length - (intOf i).toNat)
    case atStart => exact ⟨0, 0, Nat.zero_le _, rfl, rfl, by omega, by omega, hb, by show _ = _; simp⟩
    case round =>
      obtain ⟨k, q, hk, rfl, rfl, q0, q1, hB, H⟩ := hrel
      by_cases hlt : k < zs.length
      · obtain rfl := had (by omega)
        obtain ⟨⟨x0, x1, x2⟩, hx⟩ : ∃ x, zs[k]? = some x := ⟨_, List.getElem?_eq_getElem hlt⟩
        have hsrc : wr.cell? ⟨bl, off + k * 3, none⟩ = some (.int .i64 x0) ∧ wr.cell? ⟨bl, off + k * 3 + 1, none⟩ = some (.int .i64 x1) ∧ wr.cell? ⟨bl, off + k * 3 + 2, none⟩ = some (.int .i64 x2) := by
          have h1 := HC.out k hlt
          rw [List.getD_eq_getElem?_getD, hx] at h1
          exact ⟨cell_on hB h1.1, cell_on hB h1.2.1, cell_on hB h1.2.2⟩
        obtain ⟨hck0, hck1, hck2⟩ := hsrc
        have HX := Lib.hid (And.intro (drop_get? hx) (List.mem_of_getElem? hx))
        clear hx
        obtain ⟨_, _, y0, y1⟩ := HM.out _ HX.out.2
        simp only [] at y0 y1
        have hB2 := hB.alloc hB.size (.cells #[.int .i64 x0, .int .i64 x1, .int .i64 x2] 42)
        by_cases hpl : x1 = p
        · subst hpl
          go_wp2
          exact ⟨⟨k + 1, q + x2, by omega, by go_num, rfl, by omega, by omega, hB2, by show _ = _; rw [← H.out, HX.out.1, weightF_hit (x := (x0, x1, x2)) _ rfl]; dsimp only; omega⟩, by simp [intOf]; omega⟩
        · have hpb : (x1 == p) = false := beq_eq_false_iff_ne.2 hpl
          go_wp2
          exact ⟨⟨k + 1, q, by omega, by go_num, rfl, by omega, by omega, hB2, by show _ = _; rw [← H.out, HX.out.1, weightF_miss (x := (x0, x1, x2)) _ hpl]⟩, by simp [intOf]; omega⟩
      · go_wp2
        go_ret
        obtain rfl : k = zs.length := by omega
        exact ⟨ret_int (by rw [← H.out, List.drop_length]; simp [weightF]), hB⟩
  · have hp : weightOf zs p = -1 := if_neg hg
    rw [hp]
    clear hp
    have hg' : notesB zs = false := by simpa using hg
    clear hg
    go_enter Try.func16, Try.ntmps16
    go_wp2_with (go_at_call 13; refine (implNotesOk_any zs _ _ HR.out).mono ?_; rintro e w1 ⟨rfl, hb⟩)
    go_ret
    exact ⟨rfl, hb⟩
theorem walkFnExactWeightOf (zs : List (Int × Int × Int)) (p : Int) (vzs : Value) (w : World) (hzs : RdNote w vzs zs) : Calls Try.prog 4 #[vzs, .int .i64 p] w fun e w' => e = .returned (.bool true) ∧ Below w.heap.size w w' := by
  have hmxzs : zs.length ≤ 9223372036854775807 := by obtain ⟨_, _, _, _, _, h1, h2, _⟩ := hzs.open; omega
  obtain ⟨azs, capzs, rfl⟩ := hzs.shape
  by_cases hlzs : zs.length ≤ 1048576
  · skip
    have hB := Below.refl w.heap.size w
    go_enter Try.func4, Try.ntmps4
    go_wp2_with (fail)
    refine (szNoteS_ok _ _ _ _ (by omega) (by omega) _).mono ?_
    rintro e w' ⟨rfl, rfl⟩
    go_wp2_with (fail)
    refine (toNoteS_any zs (by omega) _ _ (hzs.below hB)).mono ?_
    rintro e w1 ⟨ut0, rfl, ot0, hb⟩
    have bt0 := hB.size
    replace hB := bvia hB hb
    clear hb
    go_wp2_with (fail)
    refine (specWeightOf_any zs p  _ _ ot0.rd).mono ?_
    rintro e w2 ⟨rfl, hb⟩
    replace ot0 := ot0.below hb
    replace hB := bvia hB hb
    clear hb
    clear ot0
    go_wp2_with (fail)
    refine (toNoteS_any zs (by omega) _ _ (hzs.below hB)).mono ?_
    rintro e w3 ⟨ux0, rfl, ox0, hb⟩
    have bx0 := hB.size
    replace hB := bvia hB hb
    clear hb
    go_wp2_with (fail)
    refine (implWeightOf_any zs p  _ _ ox0.rd).mono ?_
    rintro e w4 ⟨rfl, hb⟩
    replace ox0 := ox0.below hb
    replace hB := bvia hB hb
    clear hb
    go_wp2_with (fail)
    refine (toNoteS_any zs (by omega) _ _ (hzs.below hB)).mono ?_
    rintro e w5 ⟨uy0, rfl, oy0, hb⟩
    have dx0_y0 := dis_of ox0.lt oy0.lt (Nat.le_refl _)
    have dy0_x0 := dis_of' ox0.lt oy0.lt (Nat.le_refl _)
    have by0 := hB.size
    replace ox0 := ox0.below hb
    replace hB := bvia hB hb
    clear hb
    go_wp2_with (fail)
    refine (eqNoteS_any zs _ _ _ ox0.rd oy0.rd).mono ?_
    rintro e w6 ⟨rfl, hb⟩
    replace ox0 := ox0.below hb
    replace oy0 := oy0.below hb
    replace hB := bvia hB hb
    clear hb
    clear oy0
    go_wp2_with (fail)
    go_returns
    exact ⟨rfl, hB⟩
  · go_enter Try.func4, Try.ntmps4
    go_wp2_with (fail)
    refine (szNoteS_no _ _ _ (by have := hmxzs; omega) _ (by omega) (by omega) (by omega) _).mono ?_
    rintro e w' ⟨rfl, rfl⟩
    go_wp2_with (fail)
    go_returns
    exact ⟨rfl, Below.refl _ _⟩
end Go.Proofs.Ytcplfempajfcdaa
