/- The walks of LoansOk, loanOf, copyLoans: loans of props, each prop once. -/
import Derived.Test.YtgfpnadjkemafaaHlLoan
import Derived.Test.YtgfpnadjkemafaaRg
namespace Go.Proofs.Ytgfpnadjkemafaa
open Go.ChangeShapes Go.WideShapes Go.ChangeAt Go.RowKit Go.Joins
set_option linter.unusedSimpArgs false
set_option linter.unusedVariables false

def loanB (x : Int × Int) : Bool := inB x.1 0 49 && inB x.2 0 99
/-- The first index of the loan of prop p from place k on; -1 if there is none. -/
def loanOfF (p : Int) : List (Int × Int) → Int → Int
  | [], _ => -1
  | x :: r, k => if x.1 = p then k else loanOfF p r (k + 1)
def hasLoan (p : Int) (zs : List (Int × Int)) : Bool := zs.any fun x => x.1 == p
theorem loanOfF_ge (p : Int) (zs : List (Int × Int)) : ∀ k : Int, 0 ≤ k → (0 ≤ loanOfF p zs k ↔ hasLoan p zs = true) := by
  induction zs with
  | nil => intro k _; simp [loanOfF, hasLoan]
  | cons x r ih =>
    intro k hk
    by_cases h : x.1 = p
    · simp [loanOfF, hasLoan, h, hk]
    · have := ih (k + 1) (by omega)
      simpa [loanOfF, hasLoan, h] using this
/-- Each loan is one, and no prop is out twice; A: the loans before. -/
def loansF : List (Int × Int) → List (Int × Int) → Bool
  | _, [] => true
  | A, x :: r => loanB x && !hasLoan x.1 A && loansF (A ++ [x]) r
theorem loansF_cons (A : List (Int × Int)) (x : Int × Int) (r : List (Int × Int)) : loansF A (x :: r) = (loanB x && !hasLoan x.1 A && loansF (A ++ [x]) r) := rfl
def loansB (zs : List (Int × Int)) : Bool := decide (zs.length ≤ 20) && loansF [] zs
theorem drop_get? {α : Type} {zs : List α} {k : Nat} {x : α} (h : zs[k]? = some x) : zs.drop k = x :: zs.drop (k + 1) := by
  have hk := (List.getElem?_eq_some_iff.1 h).1
  rw [List.drop_eq_getElem_cons hk]
  congr 1
  exact (List.getElem?_eq_some_iff.1 h).2
theorem take_get? {α : Type} {zs : List α} {k : Nat} {x : α} (h : zs[k]? = some x) : zs.take (k + 1) = zs.take k ++ [x] := by
  have hk := (List.getElem?_eq_some_iff.1 h).1
  rw [List.take_succ_eq_append_getElem hk]
  congr 1
  simp [(List.getElem?_eq_some_iff.1 h).2]
theorem RdLoan.take {w : World} {zs : List (Int × Int)} {bl off cap k : Nat} (hcap : zs.length ≤ cap) (hmax : cap ≤ 9223372036854775807) (hk : k ≤ zs.length)
    (hc : ∀ i, i < zs.length → w.cell? ⟨bl, off + i * 2, none⟩ = some (.int .i64 (zs.getD i (0, 0)).1) ∧ w.cell? ⟨bl, off + i * 2 + 1, none⟩ = some (.int .i64 (zs.getD i (0, 0)).2)) :
    RdLoan w (.slice (some ⟨bl, off, none⟩) k cap) (zs.take k) := by
  refine ⟨_, cap, bl, off, by rw [List.length_take]; congr 1; omega, by rw [List.length_take]; omega, hmax, fun _ => rfl, fun j u hj => ?_⟩
  have hq : j = j / 2 * 2 + j % 2 := by omega
  have hr : j % 2 < 2 := Nat.mod_lt _ (by omega)
  generalize hqq : j / 2 = q at hq
  generalize hrr : j % 2 = r at hq hr
  subst hq
  clear hqq hrr
  have hql : ∀ y, (zs.take k)[q]? = some y → q < zs.length ∧ zs.getD q (0, 0) = y := by
    intro y hy
    rw [List.getElem?_take] at hy
    split at hy
    · have := (List.getElem?_eq_some_iff.1 hy).1
      exact ⟨this, by rw [List.getD_eq_getElem?_getD, hy]; rfl⟩
    · cases hy
  match r, hr with
  | 0, _ =>
    rw [Nat.add_zero, flLoan_get0] at hj
    obtain ⟨y, hy, rfl⟩ := Option.map_eq_some_iff.1 hj
    obtain ⟨h1, h2⟩ := hql y hy
    rw [← h2]
    exact (hc q h1).1
  | 1, _ =>
    rw [flLoan_get1] at hj
    obtain ⟨y, hy, rfl⟩ := Option.map_eq_some_iff.1 hj
    obtain ⟨h1, h2⟩ := hql y hy
    rw [← h2]
    exact (hc q h1).2
theorem loanOf_any (zs : List (Int × Int)) (p : Int) (v : Value) (w : World) (h : RdLoan w v zs) : Calls Try.prog 37 #[v, .int .i64 p] w fun e w' => e = .returned (.int .i64 (loanOfF p zs 0)) ∧ Below w.heap.size w w' := by
  obtain ⟨ad, cap, bl, off, rfl, hcap, hmax, had, hc⟩ := h.open
  have HC := Lib.hid hc
  clear h hc
  go_enter Try.func37, Try.ntmps37
  go_wp2
  go_loopw [9] (fun i wr => ∃ k : Nat, k ≤ zs.length ∧ i = .int .i64 k ∧ Below w.heap.size w wr ∧ Hid (loanOfF p (zs.drop k) k = loanOfF p zs 0)) (fun i _ => zs.length - (intOf i).toNat)
  case atStart => exact ⟨0, Nat.zero_le _, rfl, Below.refl _ _, rfl⟩
  case round =>
    obtain ⟨k, hk, rfl, hB, H⟩ := hrel
    by_cases hlt : k < zs.length
    · obtain rfl := had (by omega)
      obtain ⟨⟨x0, x1⟩, hx⟩ : ∃ x, zs[k]? = some x := ⟨_, List.getElem?_eq_getElem hlt⟩
      have hsrc : wr.cell? ⟨bl, off + k * 2, none⟩ = some (.int .i64 x0) ∧ wr.cell? ⟨bl, off + k * 2 + 1, none⟩ = some (.int .i64 x1) := by
        have h1 := HC.out k hlt
        rw [List.getD_eq_getElem?_getD, hx] at h1
        exact ⟨cell_on hB h1.1, cell_on hB h1.2⟩
      obtain ⟨hck0, hck1⟩ := hsrc
      have HX := Lib.hid (And.intro (drop_get? hx) (take_get? hx))
      clear hx
      have hB2 := hB.alloc hB.size (.cells #[.int .i64 x0, .int .i64 x1] 46)
      by_cases hx : x0 = p
      · subst hx
        go_wp2
        go_ret
        exact ⟨ret_int (by rw [← H.out, HX.out.1]; simp [loanOfF]), hB2⟩
      · have hxb : (x0 == p) = false := beq_eq_false_iff_ne.2 hx
        go_wp2
        exact ⟨⟨k + 1, by omega, by go_num, hB2, by show _ = _; rw [← H.out, HX.out.1]; simp [loanOfF, hx]⟩, by simp [intOf]; omega⟩
    · go_wp2
      go_ret
      obtain rfl : k = zs.length := by omega
      exact ⟨ret_int (by rw [← H.out, List.drop_length]; rfl), hB⟩
set_option maxHeartbeats 3200000 in
theorem implLoansOk_any (zs : List (Int × Int)) (v : Value) (w : World) (h : RdLoan w v zs) : Calls Try.prog 13 #[v] w fun e w' => e = .returned (.bool (loansB zs)) ∧ Below w.heap.size w w' := by
  obtain ⟨ad, cap, bl, off, rfl, hcap, hmax, had, hc⟩ := h.open
  have HC := Lib.hid hc
  clear h hc
  by_cases h20 : zs.length ≤ 20
  · go_enter Try.func13, Try.ntmps13
    go_wp2
    go_loopw [10] (fun i wr => ∃ k : Nat, k ≤ zs.length ∧ i = .int .i64 k ∧ Below w.heap.size w wr ∧ Hid (loansF (zs.take k) (zs.drop k) = loansF [] zs)) (fun i _ => zs.length - (intOf i).toNat)
    case atStart => exact ⟨0, Nat.zero_le _, rfl, Below.refl _ _, rfl⟩
    case round =>
     as_aux_lemma =>
      obtain ⟨k, hk, rfl, hB, H⟩ := hrel
      by_cases hlt : k < zs.length
      · obtain rfl := had (by omega)
        obtain ⟨⟨x0, x1⟩, hx⟩ : ∃ x, zs[k]? = some x := ⟨_, List.getElem?_eq_getElem hlt⟩
        have hsrc : wr.cell? ⟨bl, off + k * 2, none⟩ = some (.int .i64 x0) ∧ wr.cell? ⟨bl, off + k * 2 + 1, none⟩ = some (.int .i64 x1) := by
          have h1 := HC.out k hlt
          rw [List.getD_eq_getElem?_getD, hx] at h1
          exact ⟨cell_on hB h1.1, cell_on hB h1.2⟩
        obtain ⟨hck0, hck1⟩ := hsrc
        have HX := Lib.hid (And.intro (drop_get? hx) (take_get? hx))
        clear hx
        have hrd : RdLoan wr (.slice (some ⟨bl, off, none⟩) k cap) (zs.take k) := RdLoan.take hcap hmax hk (fun i hi => ⟨cell_on hB (HC.out i hi).1, cell_on hB (HC.out i hi).2⟩)
        have HR := Lib.hid hrd
        clear hrd
        have hB2 := below_alloc1 wr (.cells #[.int .i64 x0, .int .i64 x1] 46)
        have hB0 := hB
        have q1 : (k : Int) ≤ (cap : Int) := by omega
        have q2 : k ≤ cap := by omega
        go_wp2
        obtain ⟨W, hW⟩ : ∃ W, W = wr.alloc (.cells #[.int .i64 x0, .int .i64 x1] 46) := ⟨_, rfl⟩
        have k0 : W.cell? ⟨wr.heap.size, 0, none⟩ = some (.int .i64 x0) := by rw [hW]; simp [go_sem]
        have k1 : W.cell? ⟨wr.heap.size, 1, none⟩ = some (.int .i64 x1) := by rw [hW]; simp [go_sem]
        rw [← hW] at hB2 ⊢
        clear hW
        replace hB2 := hB2.drew
        have cw : ∀ (x lo hi : Int) (b : Bool), inB x lo hi = b → ∀ u, Calls Try.prog 36 #[.int .i64 x, .int .i64 lo, .int .i64 hi] u fun e w' => e = .returned (.bool b) ∧ u = w' := fun x lo hi b hb u => by have := within_any x lo hi u; rwa [hb] at this
        have hout : ∀ b : Bool, (loanB (x0, x1) && !hasLoan x0 (zs.take k)) = b → loansF [] zs = (b && loansF (zs.take (k + 1)) (zs.drop (k + 1))) := fun b hb => by
          rw [← H.out, HX.out.1, loansF_cons, HX.out.2]
          exact congrArg (· && _) hb
        have HO := Lib.hid hout
        clear hout
        cases h0 : inB x0 0 49 with
        | false =>
          refine wp_region_held_drew (S := (fun w' => w'.cell? ⟨wr.heap.size, 0, none⟩ = some (.int .i64 x0) ∧ w'.cell? ⟨wr.heap.size, 1, none⟩ = some (.int .i64 x1))) (by kernel_rfl) (by (try dsimp only); exact ⟨k0, k1⟩) (fun hHeld => ?_)
          refine takeI (i := 0) (oi := _) (v := _) (by simp only [List.getElem?_toArray, List.getElem?_cons_succ, List.getElem?_cons_zero]; exact rfl) ⟨by kernel_rfl, by kernel_rfl, by kernel_rfl, by exact fun _ _ _ h => h, Or.inl ⟨by rfl, by (intro w hSw; (try dsimp only at hSw); go_simp; (try with_reducible rfl))⟩, by assumption, ?_⟩
          try simp only [Act.put, List.setIfInBounds_toArray, List.set_cons_zero, List.set_cons_succ]
          refine takeI (i := 1) (oi := _) (v := _) (by simp only [List.getElem?_toArray, List.getElem?_cons_succ, List.getElem?_cons_zero]; exact rfl) ⟨by kernel_rfl, by kernel_rfl, by kernel_rfl, by exact fun _ _ _ h => h, Or.inl ⟨by rfl, by (intro w hSw; (try dsimp only at hSw); go_simp; (try with_reducible rfl))⟩, by assumption, ?_⟩
          try simp only [Act.put, List.setIfInBounds_toArray, List.set_cons_zero, List.set_cons_succ]
          refine wpAnyH_ready (rs := [2]) (by kernel_rfl) (by simp) ?_
          refine AllReadyH.cons (o := _) (by simp only [List.getElem?_toArray, List.getElem?_cons_succ, List.getElem?_cons_zero]; exact rfl) (fun K hK => ?_) AllReadyH.nil
          go_simp
          go_at_call 36; (refine (cw _ _ _ _ h0 _).mono ?_; rintro e w1 ⟨rfl, rfl⟩)
          go_wp2_with fail
          refine hK.out _ _ (by (try dsimp only); exact ⟨k0, k1⟩) (fun hHeld => ?_)
          clear hK K
          try simp only [Act.put, List.setIfInBounds_toArray, List.set_cons_zero, List.set_cons_succ]
          refine takeI (i := 3) (oi := _) (v := _) (by simp only [List.getElem?_toArray, List.getElem?_cons_succ, List.getElem?_cons_zero]; exact rfl) ⟨by kernel_rfl, by kernel_rfl, by kernel_rfl, by exact fun _ _ _ h => h, Or.inl ⟨by rfl, by (intro w hSw; (try dsimp only at hSw); go_simp; (try with_reducible rfl))⟩, by assumption, ?_⟩
          try simp only [Act.put, List.setIfInBounds_toArray, List.set_cons_zero, List.set_cons_succ]
          refine takeI (i := 4) (oi := _) (v := _) (by simp only [List.getElem?_toArray, List.getElem?_cons_succ, List.getElem?_cons_zero]; exact rfl) ⟨by kernel_rfl, by kernel_rfl, by kernel_rfl, by exact fun _ _ _ h => h, Or.inl ⟨by rfl, by (intro w hSw; (try dsimp only at hSw); go_simp; (try with_reducible rfl))⟩, by assumption, ?_⟩
          try simp only [Act.put, List.setIfInBounds_toArray, List.set_cons_zero, List.set_cons_succ]
          refine takeI (i := 5) (oi := _) (v := undef) (by simp only [List.getElem?_toArray, List.getElem?_cons_succ, List.getElem?_cons_zero]; exact rfl) ⟨by kernel_rfl, by kernel_rfl, by kernel_rfl, by exact fun _ _ _ h => h, Or.inr ⟨by rfl, rfl⟩, by assumption, ?_⟩
          try simp only [Act.put, List.setIfInBounds_toArray, List.set_cons_zero, List.set_cons_succ]
          refine takeI (i := 6) (oi := _) (v := undef) (by simp only [List.getElem?_toArray, List.getElem?_cons_succ, List.getElem?_cons_zero]; exact rfl) ⟨by kernel_rfl, by kernel_rfl, by kernel_rfl, by exact fun _ _ _ h => h, Or.inr ⟨by rfl, rfl⟩, by assumption, ?_⟩
          try simp only [Act.put, List.setIfInBounds_toArray, List.set_cons_zero, List.set_cons_succ]
          refine takeI (i := 7) (oi := _) (v := undef) (by simp only [List.getElem?_toArray, List.getElem?_cons_succ, List.getElem?_cons_zero]; exact rfl) ⟨by kernel_rfl, by kernel_rfl, by kernel_rfl, by exact fun _ _ _ h => h, Or.inr ⟨by rfl, rfl⟩, by assumption, ?_⟩
          try simp only [Act.put, List.setIfInBounds_toArray, List.set_cons_zero, List.set_cons_succ]
          refine takeI (i := 8) (oi := _) (v := undef) (by simp only [List.getElem?_toArray, List.getElem?_cons_succ, List.getElem?_cons_zero]; exact rfl) ⟨by kernel_rfl, by kernel_rfl, by kernel_rfl, by exact fun _ _ _ h => h, Or.inr ⟨by rfl, rfl⟩, by assumption, ?_⟩
          try simp only [Act.put, List.setIfInBounds_toArray, List.set_cons_zero, List.set_cons_succ]
          refine takeI (i := 9) (oi := _) (v := _) (by simp only [List.getElem?_toArray, List.getElem?_cons_succ, List.getElem?_cons_zero]; exact rfl) ⟨by kernel_rfl, by kernel_rfl, by kernel_rfl, by exact fun _ _ _ h => h, Or.inl ⟨by rfl, by (intro w hSw; (try dsimp only at hSw); go_simp; (try with_reducible rfl))⟩, by assumption, ?_⟩
          try simp only [Act.put, List.setIfInBounds_toArray, List.set_cons_zero, List.set_cons_succ]
          refine takeI (i := 10) (oi := _) (v := _) (by simp only [List.getElem?_toArray, List.getElem?_cons_succ, List.getElem?_cons_zero]; exact rfl) ⟨by kernel_rfl, by kernel_rfl, by kernel_rfl, by exact fun _ _ _ h => h, Or.inl ⟨by rfl, by (intro w hSw; (try dsimp only at hSw); go_simp; (try with_reducible rfl))⟩, by assumption, ?_⟩
          try simp only [Act.put, List.setIfInBounds_toArray, List.set_cons_zero, List.set_cons_succ]
          refine takeI (i := 11) (oi := _) (v := undef) (by simp only [List.getElem?_toArray, List.getElem?_cons_succ, List.getElem?_cons_zero]; exact rfl) ⟨by kernel_rfl, by kernel_rfl, by kernel_rfl, by exact fun _ _ _ h => h, Or.inr ⟨by rfl, rfl⟩, by assumption, ?_⟩
          try simp only [Act.put, List.setIfInBounds_toArray, List.set_cons_zero, List.set_cons_succ]
          refine takeI (i := 12) (oi := _) (v := undef) (by simp only [List.getElem?_toArray, List.getElem?_cons_succ, List.getElem?_cons_zero]; exact rfl) ⟨by kernel_rfl, by kernel_rfl, by kernel_rfl, by exact fun _ _ _ h => h, Or.inr ⟨by rfl, rfl⟩, by assumption, ?_⟩
          try simp only [Act.put, List.setIfInBounds_toArray, List.set_cons_zero, List.set_cons_succ]
          refine takeI (i := 13) (oi := _) (v := undef) (by simp only [List.getElem?_toArray, List.getElem?_cons_succ, List.getElem?_cons_zero]; exact rfl) ⟨by kernel_rfl, by kernel_rfl, by kernel_rfl, by exact fun _ _ _ h => h, Or.inr ⟨by rfl, rfl⟩, by assumption, ?_⟩
          try simp only [Act.put, List.setIfInBounds_toArray, List.set_cons_zero, List.set_cons_succ]
          refine takeI (i := 14) (oi := _) (v := undef) (by simp only [List.getElem?_toArray, List.getElem?_cons_succ, List.getElem?_cons_zero]; exact rfl) ⟨by kernel_rfl, by kernel_rfl, by kernel_rfl, by exact fun _ _ _ h => h, Or.inr ⟨by rfl, rfl⟩, by assumption, ?_⟩
          try simp only [Act.put, List.setIfInBounds_toArray, List.set_cons_zero, List.set_cons_succ]
          refine takeI (i := 15) (oi := _) (v := undef) (by simp only [List.getElem?_toArray, List.getElem?_cons_succ, List.getElem?_cons_zero]; exact rfl) ⟨by kernel_rfl, by kernel_rfl, by kernel_rfl, by exact fun _ _ _ h => h, Or.inr ⟨by rfl, rfl⟩, by assumption, ?_⟩
          try simp only [Act.put, List.setIfInBounds_toArray, List.set_cons_zero, List.set_cons_succ]
          refine takeI (i := 16) (oi := _) (v := undef) (by simp only [List.getElem?_toArray, List.getElem?_cons_succ, List.getElem?_cons_zero]; exact rfl) ⟨by kernel_rfl, by kernel_rfl, by kernel_rfl, by exact fun _ _ _ h => h, Or.inr ⟨by rfl, rfl⟩, by assumption, ?_⟩
          try simp only [Act.put, List.setIfInBounds_toArray, List.set_cons_zero, List.set_cons_succ]
          refine takeI (i := 17) (oi := _) (v := undef) (by simp only [List.getElem?_toArray, List.getElem?_cons_succ, List.getElem?_cons_zero]; exact rfl) ⟨by kernel_rfl, by kernel_rfl, by kernel_rfl, by exact fun _ _ _ h => h, Or.inr ⟨by rfl, rfl⟩, by assumption, ?_⟩
          try simp only [Act.put, List.setIfInBounds_toArray, List.set_cons_zero, List.set_cons_succ]
          refine takeI (i := 18) (oi := _) (v := _) (by simp only [List.getElem?_toArray, List.getElem?_cons_succ, List.getElem?_cons_zero]; exact rfl) ⟨by kernel_rfl, by kernel_rfl, by kernel_rfl, by exact fun _ _ _ h => h, Or.inl ⟨by rfl, by (intro w hSw; (try dsimp only at hSw); go_simp; (try with_reducible rfl))⟩, by assumption, ?_⟩
          try simp only [Act.put, List.setIfInBounds_toArray, List.set_cons_zero, List.set_cons_succ]
          refine wpAnyH_done (by kernel_rfl) ?_ _
          go_wp2
          go_ret
          exact ⟨ret_bool (by rw [loansB, HO.out false (by simp [loanB, h0])]; simp), bvia hB0 hB2⟩
        | true =>
          cases h1 : inB x1 0 99 with
          | false =>
            refine wp_region_held_drew (S := (fun w' => w'.cell? ⟨wr.heap.size, 0, none⟩ = some (.int .i64 x0) ∧ w'.cell? ⟨wr.heap.size, 1, none⟩ = some (.int .i64 x1))) (by kernel_rfl) (by (try dsimp only); exact ⟨k0, k1⟩) (fun hHeld => ?_)
            refine takeI (i := 0) (oi := _) (v := _) (by simp only [List.getElem?_toArray, List.getElem?_cons_succ, List.getElem?_cons_zero]; exact rfl) ⟨by kernel_rfl, by kernel_rfl, by kernel_rfl, by exact fun _ _ _ h => h, Or.inl ⟨by rfl, by (intro w hSw; (try dsimp only at hSw); go_simp; (try with_reducible rfl))⟩, by assumption, ?_⟩
            try simp only [Act.put, List.setIfInBounds_toArray, List.set_cons_zero, List.set_cons_succ]
            refine takeI (i := 1) (oi := _) (v := _) (by simp only [List.getElem?_toArray, List.getElem?_cons_succ, List.getElem?_cons_zero]; exact rfl) ⟨by kernel_rfl, by kernel_rfl, by kernel_rfl, by exact fun _ _ _ h => h, Or.inl ⟨by rfl, by (intro w hSw; (try dsimp only at hSw); go_simp; (try with_reducible rfl))⟩, by assumption, ?_⟩
            try simp only [Act.put, List.setIfInBounds_toArray, List.set_cons_zero, List.set_cons_succ]
            refine wpAnyH_ready (rs := [2]) (by kernel_rfl) (by simp) ?_
            refine AllReadyH.cons (o := _) (by simp only [List.getElem?_toArray, List.getElem?_cons_succ, List.getElem?_cons_zero]; exact rfl) (fun K hK => ?_) AllReadyH.nil
            go_simp
            go_at_call 36; (refine (cw _ _ _ _ h0 _).mono ?_; rintro e w1 ⟨rfl, rfl⟩)
            go_wp2_with fail
            refine hK.out _ _ (by (try dsimp only); exact ⟨k0, k1⟩) (fun hHeld => ?_)
            clear hK K
            try simp only [Act.put, List.setIfInBounds_toArray, List.set_cons_zero, List.set_cons_succ]
            refine takeI (i := 3) (oi := _) (v := _) (by simp only [List.getElem?_toArray, List.getElem?_cons_succ, List.getElem?_cons_zero]; exact rfl) ⟨by kernel_rfl, by kernel_rfl, by kernel_rfl, by exact fun _ _ _ h => h, Or.inl ⟨by rfl, by (intro w hSw; (try dsimp only at hSw); go_simp; (try with_reducible rfl))⟩, by assumption, ?_⟩
            try simp only [Act.put, List.setIfInBounds_toArray, List.set_cons_zero, List.set_cons_succ]
            refine takeI (i := 4) (oi := _) (v := _) (by simp only [List.getElem?_toArray, List.getElem?_cons_succ, List.getElem?_cons_zero]; exact rfl) ⟨by kernel_rfl, by kernel_rfl, by kernel_rfl, by exact fun _ _ _ h => h, Or.inl ⟨by rfl, by (intro w hSw; (try dsimp only at hSw); go_simp; (try with_reducible rfl))⟩, by assumption, ?_⟩
            try simp only [Act.put, List.setIfInBounds_toArray, List.set_cons_zero, List.set_cons_succ]
            refine takeI (i := 5) (oi := _) (v := _) (by simp only [List.getElem?_toArray, List.getElem?_cons_succ, List.getElem?_cons_zero]; exact rfl) ⟨by kernel_rfl, by kernel_rfl, by kernel_rfl, by exact fun _ _ _ h => h, Or.inl ⟨by rfl, by (intro w hSw; (try dsimp only at hSw); go_simp; (try with_reducible rfl))⟩, by assumption, ?_⟩
            try simp only [Act.put, List.setIfInBounds_toArray, List.set_cons_zero, List.set_cons_succ]
            refine takeI (i := 6) (oi := _) (v := _) (by simp only [List.getElem?_toArray, List.getElem?_cons_succ, List.getElem?_cons_zero]; exact rfl) ⟨by kernel_rfl, by kernel_rfl, by kernel_rfl, by exact fun _ _ _ h => h, Or.inl ⟨by rfl, by (intro w hSw; (try dsimp only at hSw); go_simp; (try with_reducible rfl))⟩, by assumption, ?_⟩
            try simp only [Act.put, List.setIfInBounds_toArray, List.set_cons_zero, List.set_cons_succ]
            refine wpAnyH_ready (rs := [7]) (by kernel_rfl) (by simp) ?_
            refine AllReadyH.cons (o := _) (by simp only [List.getElem?_toArray, List.getElem?_cons_succ, List.getElem?_cons_zero]; exact rfl) (fun K hK => ?_) AllReadyH.nil
            go_simp
            go_at_call 36; (refine (cw _ _ _ _ h1 _).mono ?_; rintro e w1 ⟨rfl, rfl⟩)
            go_wp2_with fail
            refine hK.out _ _ (by (try dsimp only); exact ⟨k0, k1⟩) (fun hHeld => ?_)
            clear hK K
            try simp only [Act.put, List.setIfInBounds_toArray, List.set_cons_zero, List.set_cons_succ]
            refine takeI (i := 8) (oi := _) (v := _) (by simp only [List.getElem?_toArray, List.getElem?_cons_succ, List.getElem?_cons_zero]; exact rfl) ⟨by kernel_rfl, by kernel_rfl, by kernel_rfl, by exact fun _ _ _ h => h, Or.inl ⟨by rfl, by (intro w hSw; (try dsimp only at hSw); go_simp; (try with_reducible rfl))⟩, by assumption, ?_⟩
            try simp only [Act.put, List.setIfInBounds_toArray, List.set_cons_zero, List.set_cons_succ]
            refine takeI (i := 9) (oi := _) (v := _) (by simp only [List.getElem?_toArray, List.getElem?_cons_succ, List.getElem?_cons_zero]; exact rfl) ⟨by kernel_rfl, by kernel_rfl, by kernel_rfl, by exact fun _ _ _ h => h, Or.inl ⟨by rfl, by (intro w hSw; (try dsimp only at hSw); go_simp; (try with_reducible rfl))⟩, by assumption, ?_⟩
            try simp only [Act.put, List.setIfInBounds_toArray, List.set_cons_zero, List.set_cons_succ]
            refine takeI (i := 10) (oi := _) (v := _) (by simp only [List.getElem?_toArray, List.getElem?_cons_succ, List.getElem?_cons_zero]; exact rfl) ⟨by kernel_rfl, by kernel_rfl, by kernel_rfl, by exact fun _ _ _ h => h, Or.inl ⟨by rfl, by (intro w hSw; (try dsimp only at hSw); go_simp; (try with_reducible rfl))⟩, by assumption, ?_⟩
            try simp only [Act.put, List.setIfInBounds_toArray, List.set_cons_zero, List.set_cons_succ]
            refine takeI (i := 11) (oi := _) (v := undef) (by simp only [List.getElem?_toArray, List.getElem?_cons_succ, List.getElem?_cons_zero]; exact rfl) ⟨by kernel_rfl, by kernel_rfl, by kernel_rfl, by exact fun _ _ _ h => h, Or.inr ⟨by rfl, rfl⟩, by assumption, ?_⟩
            try simp only [Act.put, List.setIfInBounds_toArray, List.set_cons_zero, List.set_cons_succ]
            refine takeI (i := 12) (oi := _) (v := undef) (by simp only [List.getElem?_toArray, List.getElem?_cons_succ, List.getElem?_cons_zero]; exact rfl) ⟨by kernel_rfl, by kernel_rfl, by kernel_rfl, by exact fun _ _ _ h => h, Or.inr ⟨by rfl, rfl⟩, by assumption, ?_⟩
            try simp only [Act.put, List.setIfInBounds_toArray, List.set_cons_zero, List.set_cons_succ]
            refine takeI (i := 13) (oi := _) (v := undef) (by simp only [List.getElem?_toArray, List.getElem?_cons_succ, List.getElem?_cons_zero]; exact rfl) ⟨by kernel_rfl, by kernel_rfl, by kernel_rfl, by exact fun _ _ _ h => h, Or.inr ⟨by rfl, rfl⟩, by assumption, ?_⟩
            try simp only [Act.put, List.setIfInBounds_toArray, List.set_cons_zero, List.set_cons_succ]
            refine takeI (i := 14) (oi := _) (v := undef) (by simp only [List.getElem?_toArray, List.getElem?_cons_succ, List.getElem?_cons_zero]; exact rfl) ⟨by kernel_rfl, by kernel_rfl, by kernel_rfl, by exact fun _ _ _ h => h, Or.inr ⟨by rfl, rfl⟩, by assumption, ?_⟩
            try simp only [Act.put, List.setIfInBounds_toArray, List.set_cons_zero, List.set_cons_succ]
            refine takeI (i := 15) (oi := _) (v := undef) (by simp only [List.getElem?_toArray, List.getElem?_cons_succ, List.getElem?_cons_zero]; exact rfl) ⟨by kernel_rfl, by kernel_rfl, by kernel_rfl, by exact fun _ _ _ h => h, Or.inr ⟨by rfl, rfl⟩, by assumption, ?_⟩
            try simp only [Act.put, List.setIfInBounds_toArray, List.set_cons_zero, List.set_cons_succ]
            refine takeI (i := 16) (oi := _) (v := undef) (by simp only [List.getElem?_toArray, List.getElem?_cons_succ, List.getElem?_cons_zero]; exact rfl) ⟨by kernel_rfl, by kernel_rfl, by kernel_rfl, by exact fun _ _ _ h => h, Or.inr ⟨by rfl, rfl⟩, by assumption, ?_⟩
            try simp only [Act.put, List.setIfInBounds_toArray, List.set_cons_zero, List.set_cons_succ]
            refine takeI (i := 17) (oi := _) (v := undef) (by simp only [List.getElem?_toArray, List.getElem?_cons_succ, List.getElem?_cons_zero]; exact rfl) ⟨by kernel_rfl, by kernel_rfl, by kernel_rfl, by exact fun _ _ _ h => h, Or.inr ⟨by rfl, rfl⟩, by assumption, ?_⟩
            try simp only [Act.put, List.setIfInBounds_toArray, List.set_cons_zero, List.set_cons_succ]
            refine takeI (i := 18) (oi := _) (v := _) (by simp only [List.getElem?_toArray, List.getElem?_cons_succ, List.getElem?_cons_zero]; exact rfl) ⟨by kernel_rfl, by kernel_rfl, by kernel_rfl, by exact fun _ _ _ h => h, Or.inl ⟨by rfl, by (intro w hSw; (try dsimp only at hSw); go_simp; (try with_reducible rfl))⟩, by assumption, ?_⟩
            try simp only [Act.put, List.setIfInBounds_toArray, List.set_cons_zero, List.set_cons_succ]
            refine wpAnyH_done (by kernel_rfl) ?_ _
            go_wp2
            go_ret
            exact ⟨ret_bool (by rw [loansB, HO.out false (by simp [loanB, h1])]; simp), bvia hB0 hB2⟩
          | true =>
            have hge := loanOfF_ge x0 (zs.take k) 0 (Int.le_refl 0)
            have hla := fun (u : World) (v : Value) (h : RdLoan u v (zs.take k)) => loanOf_any (zs.take k) x0 v u h
            generalize loanOfF x0 (zs.take k) 0 = L at hge hla
            have HL := Lib.hid hla
            have HG := Lib.hid hge
            clear hla hge
            by_cases hl : 0 ≤ L
            · have ql : decide (0 ≤ L) = true := decide_eq_true hl
              refine wp_region_held_drew (S := (fun w' => w'.cell? ⟨wr.heap.size, 0, none⟩ = some (.int .i64 x0) ∧ w'.cell? ⟨wr.heap.size, 1, none⟩ = some (.int .i64 x1))) (by kernel_rfl) (by (try dsimp only); exact ⟨k0, k1⟩) (fun hHeld => ?_)
              refine takeI (i := 0) (oi := _) (v := _) (by simp only [List.getElem?_toArray, List.getElem?_cons_succ, List.getElem?_cons_zero]; exact rfl) ⟨by kernel_rfl, by kernel_rfl, by kernel_rfl, by exact fun _ _ _ h => h, Or.inl ⟨by rfl, by (intro w hSw; (try dsimp only at hSw); go_simp; (try with_reducible rfl))⟩, by assumption, ?_⟩
              try simp only [Act.put, List.setIfInBounds_toArray, List.set_cons_zero, List.set_cons_succ]
              refine takeI (i := 1) (oi := _) (v := _) (by simp only [List.getElem?_toArray, List.getElem?_cons_succ, List.getElem?_cons_zero]; exact rfl) ⟨by kernel_rfl, by kernel_rfl, by kernel_rfl, by exact fun _ _ _ h => h, Or.inl ⟨by rfl, by (intro w hSw; (try dsimp only at hSw); go_simp; (try with_reducible rfl))⟩, by assumption, ?_⟩
              try simp only [Act.put, List.setIfInBounds_toArray, List.set_cons_zero, List.set_cons_succ]
              refine wpAnyH_ready (rs := [2]) (by kernel_rfl) (by simp) ?_
              refine AllReadyH.cons (o := _) (by simp only [List.getElem?_toArray, List.getElem?_cons_succ, List.getElem?_cons_zero]; exact rfl) (fun K hK => ?_) AllReadyH.nil
              go_simp
              go_at_call 36; (refine (cw _ _ _ _ h0 _).mono ?_; rintro e w1 ⟨rfl, rfl⟩)
              go_wp2_with fail
              refine hK.out _ _ (by (try dsimp only); exact ⟨k0, k1⟩) (fun hHeld => ?_)
              clear hK K
              try simp only [Act.put, List.setIfInBounds_toArray, List.set_cons_zero, List.set_cons_succ]
              refine takeI (i := 3) (oi := _) (v := _) (by simp only [List.getElem?_toArray, List.getElem?_cons_succ, List.getElem?_cons_zero]; exact rfl) ⟨by kernel_rfl, by kernel_rfl, by kernel_rfl, by exact fun _ _ _ h => h, Or.inl ⟨by rfl, by (intro w hSw; (try dsimp only at hSw); go_simp; (try with_reducible rfl))⟩, by assumption, ?_⟩
              try simp only [Act.put, List.setIfInBounds_toArray, List.set_cons_zero, List.set_cons_succ]
              refine takeI (i := 4) (oi := _) (v := _) (by simp only [List.getElem?_toArray, List.getElem?_cons_succ, List.getElem?_cons_zero]; exact rfl) ⟨by kernel_rfl, by kernel_rfl, by kernel_rfl, by exact fun _ _ _ h => h, Or.inl ⟨by rfl, by (intro w hSw; (try dsimp only at hSw); go_simp; (try with_reducible rfl))⟩, by assumption, ?_⟩
              try simp only [Act.put, List.setIfInBounds_toArray, List.set_cons_zero, List.set_cons_succ]
              refine takeI (i := 5) (oi := _) (v := _) (by simp only [List.getElem?_toArray, List.getElem?_cons_succ, List.getElem?_cons_zero]; exact rfl) ⟨by kernel_rfl, by kernel_rfl, by kernel_rfl, by exact fun _ _ _ h => h, Or.inl ⟨by rfl, by (intro w hSw; (try dsimp only at hSw); go_simp; (try with_reducible rfl))⟩, by assumption, ?_⟩
              try simp only [Act.put, List.setIfInBounds_toArray, List.set_cons_zero, List.set_cons_succ]
              refine takeI (i := 6) (oi := _) (v := _) (by simp only [List.getElem?_toArray, List.getElem?_cons_succ, List.getElem?_cons_zero]; exact rfl) ⟨by kernel_rfl, by kernel_rfl, by kernel_rfl, by exact fun _ _ _ h => h, Or.inl ⟨by rfl, by (intro w hSw; (try dsimp only at hSw); go_simp; (try with_reducible rfl))⟩, by assumption, ?_⟩
              try simp only [Act.put, List.setIfInBounds_toArray, List.set_cons_zero, List.set_cons_succ]
              refine wpAnyH_ready (rs := [7]) (by kernel_rfl) (by simp) ?_
              refine AllReadyH.cons (o := _) (by simp only [List.getElem?_toArray, List.getElem?_cons_succ, List.getElem?_cons_zero]; exact rfl) (fun K hK => ?_) AllReadyH.nil
              go_simp
              go_at_call 36; (refine (cw _ _ _ _ h1 _).mono ?_; rintro e w1 ⟨rfl, rfl⟩)
              go_wp2_with fail
              refine hK.out _ _ (by (try dsimp only); exact ⟨k0, k1⟩) (fun hHeld => ?_)
              clear hK K
              try simp only [Act.put, List.setIfInBounds_toArray, List.set_cons_zero, List.set_cons_succ]
              refine takeI (i := 8) (oi := _) (v := _) (by simp only [List.getElem?_toArray, List.getElem?_cons_succ, List.getElem?_cons_zero]; exact rfl) ⟨by kernel_rfl, by kernel_rfl, by kernel_rfl, by exact fun _ _ _ h => h, Or.inl ⟨by rfl, by (intro w hSw; (try dsimp only at hSw); go_simp; (try with_reducible rfl))⟩, by assumption, ?_⟩
              try simp only [Act.put, List.setIfInBounds_toArray, List.set_cons_zero, List.set_cons_succ]
              refine takeI (i := 9) (oi := _) (v := _) (by simp only [List.getElem?_toArray, List.getElem?_cons_succ, List.getElem?_cons_zero]; exact rfl) ⟨by kernel_rfl, by kernel_rfl, by kernel_rfl, by exact fun _ _ _ h => h, Or.inl ⟨by rfl, by (intro w hSw; (try dsimp only at hSw); go_simp; (try with_reducible rfl))⟩, by assumption, ?_⟩
              try simp only [Act.put, List.setIfInBounds_toArray, List.set_cons_zero, List.set_cons_succ]
              refine takeI (i := 10) (oi := _) (v := _) (by simp only [List.getElem?_toArray, List.getElem?_cons_succ, List.getElem?_cons_zero]; exact rfl) ⟨by kernel_rfl, by kernel_rfl, by kernel_rfl, by exact fun _ _ _ h => h, Or.inl ⟨by rfl, by (intro w hSw; (try dsimp only at hSw); go_simp; (try with_reducible rfl))⟩, by assumption, ?_⟩
              try simp only [Act.put, List.setIfInBounds_toArray, List.set_cons_zero, List.set_cons_succ]
              refine takeI (i := 11) (oi := _) (v := _) (by simp only [List.getElem?_toArray, List.getElem?_cons_succ, List.getElem?_cons_zero]; exact rfl) ⟨by kernel_rfl, by kernel_rfl, by kernel_rfl, by exact fun _ _ _ h => h, Or.inl ⟨by rfl, by (intro w hSw; (try dsimp only at hSw); go_simp; (try with_reducible rfl))⟩, by assumption, ?_⟩
              try simp only [Act.put, List.setIfInBounds_toArray, List.set_cons_zero, List.set_cons_succ]
              refine takeI (i := 12) (oi := _) (v := _) (by simp only [List.getElem?_toArray, List.getElem?_cons_succ, List.getElem?_cons_zero]; exact rfl) ⟨by kernel_rfl, by kernel_rfl, by kernel_rfl, by exact fun _ _ _ h => h, Or.inl ⟨by rfl, by (intro w hSw; (try dsimp only at hSw); go_simp; (try with_reducible rfl))⟩, by assumption, ?_⟩
              try simp only [Act.put, List.setIfInBounds_toArray, List.set_cons_zero, List.set_cons_succ]
              refine takeI (i := 13) (oi := _) (v := _) (by simp only [List.getElem?_toArray, List.getElem?_cons_succ, List.getElem?_cons_zero]; exact rfl) ⟨by kernel_rfl, by kernel_rfl, by kernel_rfl, by exact fun _ _ _ h => h, Or.inl ⟨by rfl, by (intro w hSw; (try dsimp only at hSw); go_simp; (try with_reducible rfl))⟩, by assumption, ?_⟩
              try simp only [Act.put, List.setIfInBounds_toArray, List.set_cons_zero, List.set_cons_succ]
              refine takeI (i := 14) (oi := _) (v := _) (by simp only [List.getElem?_toArray, List.getElem?_cons_succ, List.getElem?_cons_zero]; exact rfl) ⟨by kernel_rfl, by kernel_rfl, by kernel_rfl, by exact fun _ _ _ h => h, Or.inl ⟨by rfl, by (intro w hSw; (try dsimp only at hSw); go_simp; (try with_reducible rfl))⟩, by assumption, ?_⟩
              try simp only [Act.put, List.setIfInBounds_toArray, List.set_cons_zero, List.set_cons_succ]
              refine takeI (i := 15) (oi := _) (v := _) (by simp only [List.getElem?_toArray, List.getElem?_cons_succ, List.getElem?_cons_zero]; exact rfl) ⟨by kernel_rfl, by kernel_rfl, by kernel_rfl, by exact fun _ _ _ h => h, Or.inl ⟨by rfl, by (intro w hSw; (try dsimp only at hSw); go_simp; (try with_reducible rfl))⟩, by assumption, ?_⟩
              try simp only [Act.put, List.setIfInBounds_toArray, List.set_cons_zero, List.set_cons_succ]
              refine wpAnyH_ready (rs := [16]) (by kernel_rfl) (by simp) ?_
              refine AllReadyH.cons (o := _) (by simp only [List.getElem?_toArray, List.getElem?_cons_succ, List.getElem?_cons_zero]; exact rfl) (fun K hK => ?_) AllReadyH.nil
              go_simp
              go_at_call 37; (refine (HL.out _ _ (HR.out.below hB2)).mono ?_; rintro e w1 ⟨rfl, hb1⟩; replace hB2 := bvia hB2 hb1; replace k0 := cell_on hb1 k0; replace k1 := cell_on hb1 k1; clear hb1)
              go_wp2_with fail
              refine hK.out _ _ (by (try dsimp only); exact ⟨k0, k1⟩) (fun hHeld => ?_)
              clear hK K
              try simp only [Act.put, List.setIfInBounds_toArray, List.set_cons_zero, List.set_cons_succ]
              refine takeI (i := 17) (oi := _) (v := _) (by simp only [List.getElem?_toArray, List.getElem?_cons_succ, List.getElem?_cons_zero]; exact rfl) ⟨by kernel_rfl, by kernel_rfl, by kernel_rfl, by exact fun _ _ _ h => h, Or.inl ⟨by rfl, by (intro w hSw; (try dsimp only at hSw); go_simp; (try with_reducible rfl))⟩, by assumption, ?_⟩
              try simp only [Act.put, List.setIfInBounds_toArray, List.set_cons_zero, List.set_cons_succ]
              refine takeI (i := 18) (oi := _) (v := _) (by simp only [List.getElem?_toArray, List.getElem?_cons_succ, List.getElem?_cons_zero]; exact rfl) ⟨by kernel_rfl, by kernel_rfl, by kernel_rfl, by exact fun _ _ _ h => h, Or.inl ⟨by rfl, by (intro w hSw; (try dsimp only at hSw); go_simp; (try with_reducible rfl))⟩, by assumption, ?_⟩
              try simp only [Act.put, List.setIfInBounds_toArray, List.set_cons_zero, List.set_cons_succ]
              refine wpAnyH_done (by kernel_rfl) ?_ _
              go_wp2
              go_ret
              exact ⟨ret_bool (by rw [loansB, HO.out false (by simp [HG.out.1 hl])]; simp), bvia hB0 hB2⟩
            · have ql : decide (0 ≤ L) = false := decide_eq_false hl
              have hnl : hasLoan x0 (zs.take k) = false := by
                cases hh : hasLoan x0 (zs.take k) with
                | false => rfl
                | true => exact absurd (HG.out.2 hh) hl
              have HN := Lib.hid hnl
              clear hnl
              refine wp_region_held_drew (S := (fun w' => w'.cell? ⟨wr.heap.size, 0, none⟩ = some (.int .i64 x0) ∧ w'.cell? ⟨wr.heap.size, 1, none⟩ = some (.int .i64 x1))) (by kernel_rfl) (by (try dsimp only); exact ⟨k0, k1⟩) (fun hHeld => ?_)
              refine takeI (i := 0) (oi := _) (v := _) (by simp only [List.getElem?_toArray, List.getElem?_cons_succ, List.getElem?_cons_zero]; exact rfl) ⟨by kernel_rfl, by kernel_rfl, by kernel_rfl, by exact fun _ _ _ h => h, Or.inl ⟨by rfl, by (intro w hSw; (try dsimp only at hSw); go_simp; (try with_reducible rfl))⟩, by assumption, ?_⟩
              try simp only [Act.put, List.setIfInBounds_toArray, List.set_cons_zero, List.set_cons_succ]
              refine takeI (i := 1) (oi := _) (v := _) (by simp only [List.getElem?_toArray, List.getElem?_cons_succ, List.getElem?_cons_zero]; exact rfl) ⟨by kernel_rfl, by kernel_rfl, by kernel_rfl, by exact fun _ _ _ h => h, Or.inl ⟨by rfl, by (intro w hSw; (try dsimp only at hSw); go_simp; (try with_reducible rfl))⟩, by assumption, ?_⟩
              try simp only [Act.put, List.setIfInBounds_toArray, List.set_cons_zero, List.set_cons_succ]
              refine wpAnyH_ready (rs := [2]) (by kernel_rfl) (by simp) ?_
              refine AllReadyH.cons (o := _) (by simp only [List.getElem?_toArray, List.getElem?_cons_succ, List.getElem?_cons_zero]; exact rfl) (fun K hK => ?_) AllReadyH.nil
              go_simp
              go_at_call 36; (refine (cw _ _ _ _ h0 _).mono ?_; rintro e w1 ⟨rfl, rfl⟩)
              go_wp2_with fail
              refine hK.out _ _ (by (try dsimp only); exact ⟨k0, k1⟩) (fun hHeld => ?_)
              clear hK K
              try simp only [Act.put, List.setIfInBounds_toArray, List.set_cons_zero, List.set_cons_succ]
              refine takeI (i := 3) (oi := _) (v := _) (by simp only [List.getElem?_toArray, List.getElem?_cons_succ, List.getElem?_cons_zero]; exact rfl) ⟨by kernel_rfl, by kernel_rfl, by kernel_rfl, by exact fun _ _ _ h => h, Or.inl ⟨by rfl, by (intro w hSw; (try dsimp only at hSw); go_simp; (try with_reducible rfl))⟩, by assumption, ?_⟩
              try simp only [Act.put, List.setIfInBounds_toArray, List.set_cons_zero, List.set_cons_succ]
              refine takeI (i := 4) (oi := _) (v := _) (by simp only [List.getElem?_toArray, List.getElem?_cons_succ, List.getElem?_cons_zero]; exact rfl) ⟨by kernel_rfl, by kernel_rfl, by kernel_rfl, by exact fun _ _ _ h => h, Or.inl ⟨by rfl, by (intro w hSw; (try dsimp only at hSw); go_simp; (try with_reducible rfl))⟩, by assumption, ?_⟩
              try simp only [Act.put, List.setIfInBounds_toArray, List.set_cons_zero, List.set_cons_succ]
              refine takeI (i := 5) (oi := _) (v := _) (by simp only [List.getElem?_toArray, List.getElem?_cons_succ, List.getElem?_cons_zero]; exact rfl) ⟨by kernel_rfl, by kernel_rfl, by kernel_rfl, by exact fun _ _ _ h => h, Or.inl ⟨by rfl, by (intro w hSw; (try dsimp only at hSw); go_simp; (try with_reducible rfl))⟩, by assumption, ?_⟩
              try simp only [Act.put, List.setIfInBounds_toArray, List.set_cons_zero, List.set_cons_succ]
              refine takeI (i := 6) (oi := _) (v := _) (by simp only [List.getElem?_toArray, List.getElem?_cons_succ, List.getElem?_cons_zero]; exact rfl) ⟨by kernel_rfl, by kernel_rfl, by kernel_rfl, by exact fun _ _ _ h => h, Or.inl ⟨by rfl, by (intro w hSw; (try dsimp only at hSw); go_simp; (try with_reducible rfl))⟩, by assumption, ?_⟩
              try simp only [Act.put, List.setIfInBounds_toArray, List.set_cons_zero, List.set_cons_succ]
              refine wpAnyH_ready (rs := [7]) (by kernel_rfl) (by simp) ?_
              refine AllReadyH.cons (o := _) (by simp only [List.getElem?_toArray, List.getElem?_cons_succ, List.getElem?_cons_zero]; exact rfl) (fun K hK => ?_) AllReadyH.nil
              go_simp
              go_at_call 36; (refine (cw _ _ _ _ h1 _).mono ?_; rintro e w1 ⟨rfl, rfl⟩)
              go_wp2_with fail
              refine hK.out _ _ (by (try dsimp only); exact ⟨k0, k1⟩) (fun hHeld => ?_)
              clear hK K
              try simp only [Act.put, List.setIfInBounds_toArray, List.set_cons_zero, List.set_cons_succ]
              refine takeI (i := 8) (oi := _) (v := _) (by simp only [List.getElem?_toArray, List.getElem?_cons_succ, List.getElem?_cons_zero]; exact rfl) ⟨by kernel_rfl, by kernel_rfl, by kernel_rfl, by exact fun _ _ _ h => h, Or.inl ⟨by rfl, by (intro w hSw; (try dsimp only at hSw); go_simp; (try with_reducible rfl))⟩, by assumption, ?_⟩
              try simp only [Act.put, List.setIfInBounds_toArray, List.set_cons_zero, List.set_cons_succ]
              refine takeI (i := 9) (oi := _) (v := _) (by simp only [List.getElem?_toArray, List.getElem?_cons_succ, List.getElem?_cons_zero]; exact rfl) ⟨by kernel_rfl, by kernel_rfl, by kernel_rfl, by exact fun _ _ _ h => h, Or.inl ⟨by rfl, by (intro w hSw; (try dsimp only at hSw); go_simp; (try with_reducible rfl))⟩, by assumption, ?_⟩
              try simp only [Act.put, List.setIfInBounds_toArray, List.set_cons_zero, List.set_cons_succ]
              refine takeI (i := 10) (oi := _) (v := _) (by simp only [List.getElem?_toArray, List.getElem?_cons_succ, List.getElem?_cons_zero]; exact rfl) ⟨by kernel_rfl, by kernel_rfl, by kernel_rfl, by exact fun _ _ _ h => h, Or.inl ⟨by rfl, by (intro w hSw; (try dsimp only at hSw); go_simp; (try with_reducible rfl))⟩, by assumption, ?_⟩
              try simp only [Act.put, List.setIfInBounds_toArray, List.set_cons_zero, List.set_cons_succ]
              refine takeI (i := 11) (oi := _) (v := _) (by simp only [List.getElem?_toArray, List.getElem?_cons_succ, List.getElem?_cons_zero]; exact rfl) ⟨by kernel_rfl, by kernel_rfl, by kernel_rfl, by exact fun _ _ _ h => h, Or.inl ⟨by rfl, by (intro w hSw; (try dsimp only at hSw); go_simp; (try with_reducible rfl))⟩, by assumption, ?_⟩
              try simp only [Act.put, List.setIfInBounds_toArray, List.set_cons_zero, List.set_cons_succ]
              refine takeI (i := 12) (oi := _) (v := _) (by simp only [List.getElem?_toArray, List.getElem?_cons_succ, List.getElem?_cons_zero]; exact rfl) ⟨by kernel_rfl, by kernel_rfl, by kernel_rfl, by exact fun _ _ _ h => h, Or.inl ⟨by rfl, by (intro w hSw; (try dsimp only at hSw); go_simp; (try with_reducible rfl))⟩, by assumption, ?_⟩
              try simp only [Act.put, List.setIfInBounds_toArray, List.set_cons_zero, List.set_cons_succ]
              refine takeI (i := 13) (oi := _) (v := _) (by simp only [List.getElem?_toArray, List.getElem?_cons_succ, List.getElem?_cons_zero]; exact rfl) ⟨by kernel_rfl, by kernel_rfl, by kernel_rfl, by exact fun _ _ _ h => h, Or.inl ⟨by rfl, by (intro w hSw; (try dsimp only at hSw); go_simp; (try with_reducible rfl))⟩, by assumption, ?_⟩
              try simp only [Act.put, List.setIfInBounds_toArray, List.set_cons_zero, List.set_cons_succ]
              refine takeI (i := 14) (oi := _) (v := _) (by simp only [List.getElem?_toArray, List.getElem?_cons_succ, List.getElem?_cons_zero]; exact rfl) ⟨by kernel_rfl, by kernel_rfl, by kernel_rfl, by exact fun _ _ _ h => h, Or.inl ⟨by rfl, by (intro w hSw; (try dsimp only at hSw); go_simp; (try with_reducible rfl))⟩, by assumption, ?_⟩
              try simp only [Act.put, List.setIfInBounds_toArray, List.set_cons_zero, List.set_cons_succ]
              refine takeI (i := 15) (oi := _) (v := _) (by simp only [List.getElem?_toArray, List.getElem?_cons_succ, List.getElem?_cons_zero]; exact rfl) ⟨by kernel_rfl, by kernel_rfl, by kernel_rfl, by exact fun _ _ _ h => h, Or.inl ⟨by rfl, by (intro w hSw; (try dsimp only at hSw); go_simp; (try with_reducible rfl))⟩, by assumption, ?_⟩
              try simp only [Act.put, List.setIfInBounds_toArray, List.set_cons_zero, List.set_cons_succ]
              refine wpAnyH_ready (rs := [16]) (by kernel_rfl) (by simp) ?_
              refine AllReadyH.cons (o := _) (by simp only [List.getElem?_toArray, List.getElem?_cons_succ, List.getElem?_cons_zero]; exact rfl) (fun K hK => ?_) AllReadyH.nil
              go_simp
              go_at_call 37; (refine (HL.out _ _ (HR.out.below hB2)).mono ?_; rintro e w1 ⟨rfl, hb1⟩; replace hB2 := bvia hB2 hb1; replace k0 := cell_on hb1 k0; replace k1 := cell_on hb1 k1; clear hb1)
              go_wp2_with fail
              refine hK.out _ _ (by (try dsimp only); exact ⟨k0, k1⟩) (fun hHeld => ?_)
              clear hK K
              try simp only [Act.put, List.setIfInBounds_toArray, List.set_cons_zero, List.set_cons_succ]
              refine takeI (i := 17) (oi := _) (v := _) (by simp only [List.getElem?_toArray, List.getElem?_cons_succ, List.getElem?_cons_zero]; exact rfl) ⟨by kernel_rfl, by kernel_rfl, by kernel_rfl, by exact fun _ _ _ h => h, Or.inl ⟨by rfl, by (intro w hSw; (try dsimp only at hSw); go_simp; (try with_reducible rfl))⟩, by assumption, ?_⟩
              try simp only [Act.put, List.setIfInBounds_toArray, List.set_cons_zero, List.set_cons_succ]
              refine takeI (i := 18) (oi := _) (v := _) (by simp only [List.getElem?_toArray, List.getElem?_cons_succ, List.getElem?_cons_zero]; exact rfl) ⟨by kernel_rfl, by kernel_rfl, by kernel_rfl, by exact fun _ _ _ h => h, Or.inl ⟨by rfl, by (intro w hSw; (try dsimp only at hSw); go_simp; (try with_reducible rfl))⟩, by assumption, ?_⟩
              try simp only [Act.put, List.setIfInBounds_toArray, List.set_cons_zero, List.set_cons_succ]
              refine wpAnyH_done (by kernel_rfl) ?_ _
              go_wp2
              exact ⟨⟨k + 1, by omega, by go_num, bvia hB0 hB2, by show _ = _; rw [HO.out true (by simp [loanB, h0, h1, HN.out]), Bool.true_and]⟩, by simp [intOf]; omega⟩
      · go_wp2
        go_ret
        obtain rfl : k = zs.length := by omega
        have hal : loansF [] zs = true := by rw [← H.out, List.drop_length]; rfl
        exact ⟨ret_bool (by simp [loansB, hal, h20]), hB⟩
  · go_enter Try.func13, Try.ntmps13
    go_wp2
    go_ret
    exact ⟨ret_bool (by simp [loansB, h20]), Below.refl _ _⟩
theorem hasLoan_snoc (p : Int) (A : List (Int × Int)) (x : Int × Int) : hasLoan p (A ++ [x]) = (hasLoan p A || x.1 == p) := by simp [hasLoan]
set_option maxHeartbeats 1600000 in
theorem specLoansOk_any (zs : List (Int × Int)) (v : Value) (w : World) (h : RdLoan w v zs) : Calls Try.prog 11 #[v] w fun e w' => e = .returned (.bool (loansB zs)) ∧ Dr w w' := by
  obtain ⟨ad, cap, bl, off, rfl, hcap, hmax, had, hc⟩ := h.open
  have HC := Lib.hid hc
  clear h hc
  have cw : ∀ (x lo hi : Int) (b : Bool), inB x lo hi = b → ∀ u, Calls Try.prog 34 #[.int .i64 x, .int .i64 lo, .int .i64 hi] u fun e w' => e = .returned (.bool b) ∧ u = w' := fun x lo hi b hb u => by have := l01In_any x lo hi u; rwa [hb] at this
  go_enter Try.func11, Try.ntmps11
  go_wp2
  go_loopw [3] (fun i wr => ∃ k : Nat, k ≤ zs.length ∧ i = .int .i64 k ∧ Dr w wr ∧ Hid (loansF (zs.take k) (zs.drop k) = loansF [] zs)) (fun i _ => zs.length - (intOf i).toNat)
  case atStart => exact ⟨0, Nat.zero_le _, rfl, Dr.refl _, rfl⟩
  case round =>
   as_aux_lemma =>
    obtain ⟨k, hk, rfl, hD, H⟩ := hrel
    by_cases hlt : k < zs.length
    · obtain rfl := had (by omega)
      obtain ⟨⟨x0, x1⟩, hx⟩ : ∃ x, zs[k]? = some x := ⟨_, List.getElem?_eq_getElem hlt⟩
      have hsrc : wr.cell? ⟨bl, off + k * 2, none⟩ = some (.int .i64 x0) ∧ wr.cell? ⟨bl, off + k * 2 + 1, none⟩ = some (.int .i64 x1) := by
        have h1 := HC.out k hlt
        rw [List.getD_eq_getElem?_getD, hx] at h1
        exact ⟨hD.cell h1.1, hD.cell h1.2⟩
      obtain ⟨hck0, hck1⟩ := hsrc
      have HX := Lib.hid (And.intro (drop_get? hx) (take_get? hx))
      clear hx
      have hout : ∀ b : Bool, (loanB (x0, x1) && !hasLoan x0 (zs.take k)) = b → loansF [] zs = (b && loansF (zs.take (k + 1)) (zs.drop (k + 1))) := fun b hb => by
        rw [← H.out, HX.out.1, loansF_cons, HX.out.2]
        exact congrArg (· && _) hb
      have HO := Lib.hid hout
      clear hout
      cases h0 : inB x0 0 49 with
      | false =>
        go_wp2_with (fail)
        refine (cw x0 _ _ _ h0 _).mono ?_
        rintro e w1 ⟨rfl, rfl⟩
        go_wp2_with (fail)
        go_ret
        exact ⟨ret_bool (by rw [loansB, HO.out false (by simp [loanB, h0])]; simp), hD⟩
      | true =>
        cases h1 : inB x1 0 99 with
        | false =>
          go_wp2_with (fail)
          refine (cw x0 _ _ _ h0 _).mono ?_
          rintro e w1 ⟨rfl, rfl⟩
          go_wp2_with (fail)
          refine (cw x1 _ _ _ h1 _).mono ?_
          rintro e w1 ⟨rfl, rfl⟩
          go_wp2_with (fail)
          go_ret
          exact ⟨ret_bool (by rw [loansB, HO.out false (by simp [loanB, h1])]; simp), hD⟩
        | true =>
          obtain ⟨wo, rfl⟩ : ∃ wo : World, wo = wr := ⟨_, rfl⟩
          go_wp2_with (fail)
          refine (cw x0 _ _ _ h0 _).mono ?_
          rintro e w1 ⟨rfl, rfl⟩
          go_wp2_with (fail)
          refine (cw x1 _ _ _ h1 _).mono ?_
          rintro e w1 ⟨rfl, rfl⟩
          go_wp2_with (fail)
          go_loopw [4] (fun i wr => ∃ j : Nat, j ≤ k ∧ i = .int .i64 j ∧ Dr w wr ∧ Dr wo wr ∧ Hid (hasLoan x0 (zs.take j) = false)) (fun i _ => k - (intOf i).toNat)
          case atStart => exact ⟨0, Nat.zero_le _, rfl, hD, Dr.refl _, rfl⟩
          case round =>
            obtain ⟨j, hj, rfl, hD2, hD3, HJ⟩ := hrel
            replace hck0 := hD3.cell hck0
            by_cases hjk : j < k
            · have r1 : (j : Int) < (zs.length : Int) := by omega
              have r2 : (k : Int) < (zs.length : Int) := by omega
              have r3 : j < zs.length := by omega
              obtain ⟨⟨y0, y1⟩, hy⟩ : ∃ y, zs[j]? = some y := ⟨_, List.getElem?_eq_getElem (by omega)⟩
              have hsrcY : wr.cell? ⟨bl, off + j * 2, none⟩ = some (.int .i64 y0) ∧ wr.cell? ⟨bl, off + j * 2 + 1, none⟩ = some (.int .i64 y1) := by
                have h1 := HC.out j (by omega)
                rw [List.getD_eq_getElem?_getD, hy] at h1
                exact ⟨hD2.cell h1.1, hD2.cell h1.2⟩
              obtain ⟨hcy0, hcy1⟩ := hsrcY
              have HY := Lib.hid (And.intro (drop_get? hy) (take_get? hy))
              clear hy
              by_cases he : y0 = x0
              · subst he
                have heb : (y0 == y0) = true := beq_self_eq_true _
                have hyes : hasLoan y0 (zs.take k) = true := by
                  refine List.any_eq_true.2 ⟨(y0, y1), ?_, heb⟩
                  have h2 : (y0, y1) ∈ zs.take (j + 1) := by rw [HY.out.2]; simp
                  exact (List.take_subset_take_left zs (by omega : j + 1 ≤ k)) h2
                have HN := Lib.hid hyes
                clear hyes
                go_wp2
                go_quiet (fail)
                go_wp2
                go_ret
                exact ⟨ret_bool (by rw [loansB, HO.out false (by simp [HN.out])]; simp), hD2.next _⟩
              · have heb : (y0 == x0) = false := beq_eq_false_iff_ne.2 he
                go_wp2
                go_quiet (fail)
                go_wp2
                exact ⟨⟨j + 1, by omega, by go_num, hD2.next _, hD3.next _, by show _ = _; rw [HY.out.2, hasLoan_snoc, HJ.out]; exact heb⟩, by simp [intOf]; omega⟩
            · obtain rfl : j = k := by omega
              go_wp2
              exact ⟨⟨j + 1, by omega, by go_num, hD2, by show _ = _; rw [HO.out true (by simp [loanB, h0, h1, HJ.out]), Bool.true_and]⟩, by simp [intOf]; omega⟩
    · go_wp2
      go_ret
      obtain rfl : k = zs.length := by omega
      have hal : loansF [] zs = true := by rw [← H.out, List.drop_length]; rfl
      exact ⟨ret_bool (by rw [loansB, hal, Bool.and_true]; exact decide_eq_decide.2 (by omega)), hD⟩
theorem specLoansOk_b (zs : List (Int × Int)) (v : Value) (w : World) (h : RdLoan w v zs) : Calls Try.prog 11 #[v] w fun e w' => e = .returned (.bool (loansB zs)) ∧ Below w.heap.size w w' := (specLoansOk_any zs v w h).mono fun _ _ h => ⟨h.1, h.2.below⟩
theorem walkFnExactLoansOk (zs : List (Int × Int)) (vzs : Value) (w : World) (hzs : RdLoan w vzs zs) : Calls Try.prog 3 #[vzs] w fun e w' => e = .returned (.bool true) ∧ Below w.heap.size w w' := by
  have hmxzs : zs.length ≤ 9223372036854775807 := by obtain ⟨_, _, _, _, _, h1, h2, _⟩ := hzs.open; omega
  obtain ⟨azs, capzs, rfl⟩ := hzs.shape
  by_cases hlzs : zs.length ≤ 1048576
  · skip
    have hB := Below.refl w.heap.size w
    go_enter Try.func3, Try.ntmps3
    go_wp2_with (fail)
    refine (szLoanS_ok _ _ _ _ (by omega) (by omega) _).mono ?_
    rintro e w' ⟨rfl, rfl⟩
    go_wp2_with (fail)
    refine (toLoanS_any zs (by omega) _ _ (hzs.below hB)).mono ?_
    rintro e w1 ⟨ut0, rfl, ot0, hb⟩
    have bt0 := hB.size
    replace hB := bvia hB hb
    clear hb
    go_wp2_with (fail)
    refine (specLoansOk_b zs  _ _ ot0.rd).mono ?_
    rintro e w2 ⟨rfl, hb⟩
    replace ot0 := ot0.below hb
    replace hB := bvia hB hb
    clear hb
    clear ot0
    go_wp2_with (fail)
    refine (toLoanS_any zs (by omega) _ _ (hzs.below hB)).mono ?_
    rintro e w3 ⟨ux0, rfl, ox0, hb⟩
    have bx0 := hB.size
    replace hB := bvia hB hb
    clear hb
    go_wp2_with (fail)
    refine (implLoansOk_any zs  _ _ ox0.rd).mono ?_
    rintro e w4 ⟨rfl, hb⟩
    replace ox0 := ox0.below hb
    replace hB := bvia hB hb
    clear hb
    go_wp2_with (fail)
    refine (toLoanS_any zs (by omega) _ _ (hzs.below hB)).mono ?_
    rintro e w5 ⟨uy0, rfl, oy0, hb⟩
    have dx0_y0 := dis_of ox0.lt oy0.lt (Nat.le_refl _)
    have dy0_x0 := dis_of' ox0.lt oy0.lt (Nat.le_refl _)
    have by0 := hB.size
    replace ox0 := ox0.below hb
    replace hB := bvia hB hb
    clear hb
    go_wp2_with (fail)
    refine (eqLoanS_any zs _ _ _ ox0.rd oy0.rd).mono ?_
    rintro e w6 ⟨rfl, hb⟩
    replace ox0 := ox0.below hb
    replace oy0 := oy0.below hb
    replace hB := bvia hB hb
    clear hb
    clear oy0
    go_wp2_with (fail)
    go_returns
    exact ⟨rfl, hB⟩
  · go_enter Try.func3, Try.ntmps3
    go_wp2_with (fail)
    refine (szLoanS_no _ _ _ (by have := hmxzs; omega) _ (by omega) (by omega) (by omega) _).mono ?_
    rintro e w' ⟨rfl, rfl⟩
    go_wp2_with (fail)
    go_returns
    exact ⟨rfl, Below.refl _ _⟩
end Go.Proofs.Ytgfpnadjkemafaa
