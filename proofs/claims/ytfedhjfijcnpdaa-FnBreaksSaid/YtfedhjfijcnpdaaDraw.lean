/- The draws: a cursor over the bytes of an argument (l01New, l01Byte, l01Below); what is drawn lies within its bounds. And the laws' own helpers at, big. -/
import Derived.Test.YtfedhjfijcnpdaaMem
import Derived.Test.YtfedhjfijcnpdaaApp
namespace Go.Proofs.Ytfedhjfijcnpdaa
open Go.ChangeShapes Go.WideShapes Go.ChangeAt Go.RowKit Go.Joins
set_option linter.unusedSimpArgs false
set_option linter.unusedVariables false
set_option maxRecDepth 20000

/-- v reads in w as n bytes, all of them in blocks below B. -/
def RdB (w : World) (B : Nat) (v : Value) (n : Nat) : Prop :=
  ∃ (a : Option Addr) (cap b off : Nat), v = .slice a n cap ∧ n ≤ cap ∧ cap ≤ 9223372036854775807 ∧ (0 < n → a = some ⟨b, off, none⟩ ∧ b < B) ∧ ∀ k, k < n → ∃ x : Int, w.cell? ⟨b, off + k, none⟩ = some (.int .u8 x) ∧ 0 ≤ x ∧ x ≤ 255
theorem RdB.below {w w' : World} {B : Nat} {v : Value} {n : Nat} (h : RdB w B v n) (hb : Below w.heap.size w w') : RdB w' B v n := by
  obtain ⟨a, cap, b, off, hv, h1, h2, h3, h4⟩ := h
  refine ⟨a, cap, b, off, hv, h1, h2, h3, fun k hk => ?_⟩
  obtain ⟨x, hc, hx⟩ := h4 k hk
  exact ⟨x, cell_on hb hc, hx⟩
theorem RdB.kept {w w' : World} {B g : Nat} {v : Value} {n : Nat} (h : RdB w B v n) (hg : w.grownBy w' (some g)) (hB : B ≤ g) : RdB w' B v n := by
  obtain ⟨a, cap, b, off, hv, h1, h2, h3, h4⟩ := h
  refine ⟨a, cap, b, off, hv, h1, h2, h3, fun k hk => ?_⟩
  obtain ⟨x, hc, hx⟩ := h4 k hk
  have := (h3 (by omega)).2
  exact ⟨x, hg.cell hc (by simp; omega), hx⟩
theorem RdB.drewN {w : World} {B : Nat} {v : Value} {n : Nat} (h : RdB w B v n) (m : Nat) : RdB (w.drewN m) B v n := h
theorem RdB.up {w : World} {B B' : Nat} {v : Value} {n : Nat} (h : RdB w B v n) (hB : B ≤ B') : RdB w B' v n := by
  obtain ⟨a, cap, b, off, hv, h1, h2, h3, h4⟩ := h
  exact ⟨a, cap, b, off, hv, h1, h2, fun h0 => ⟨(h3 h0).1, Nat.lt_of_lt_of_le (h3 h0).2 hB⟩, h4⟩
theorem RdB.shape {w : World} {B : Nat} {v : Value} {n : Nat} (h : RdB w B v n) : ∃ a cap, v = .slice a n cap ∧ n ≤ 9223372036854775807 := by
  obtain ⟨a, cap, b, off, hv, h1, h2, _⟩ := h
  exact ⟨a, cap, hv, by omega⟩
theorem underBytes : Try.prog.underlying 22 = some (.slice 5) := Try.underlying22
theorem underByte : Try.prog.underlying 5 = some (.int .u8) := Try.underlying5
theorem cellsByte : Try.prog.cellsOf 5 = 1 := by kernel_rfl
section
variable {H : Type} {enc : TypeId × Value → H}
theorem open_rdB {W : World} {r : Reach} {base : Nat} {v : Value} {d : DataW H} {p : List MemPlace} (hv : Value.okWide Try.prog W r base 22 v) (h : DataW.Trod enc Try.prog W 0 (fun _ => true) true 22 v d p) :
    ∃ n : Nat, RdB W W.heap.size v n := by
  obtain ⟨a1, len, cap, rfl⟩ := okWide_slice underBytes hv
  obtain ⟨fuel, hf⟩ := h
  rcases open_ints underBytes underByte cellsByte hf with ⟨hcs, hx⟩ | ⟨a, len', cap', zs, hcs, _, hl, hm, hz, hx, hcell, hwz⟩
  · simp [Value.cells] at hcs
    obtain ⟨rfl, rfl, rfl⟩ := hcs
    exact ⟨0, none, 0, 0, 0, rfl, Nat.le_refl _, by omega, by omega, fun k hk => by omega⟩
  · simp [Value.cells] at hcs
    obtain ⟨rfl, rfl, rfl⟩ := hcs
    simp only [ite_true] at hz
    rw [maxLen_eq] at hm
    refine ⟨len, ?_⟩
    by_cases h0 : len = 0
    · subst h0
      exact ⟨some a, cap, 0, 0, rfl, hl, hm, by omega, fun k hk => by omega⟩
    · obtain ⟨b, off, rfl, hc⟩ := ints_at hcell (by omega)
      refine ⟨_, cap, b, off, rfl, hl, hm, fun _ => ⟨rfl, ?_⟩, fun k hk => ?_⟩
      · exact block_lt_of_cell (hc 0 (by omega))
      · have hr := range_u8 hwz k
        refine ⟨zs[k]?.getD 0, ?_, hr.1, by omega⟩
        rw [← List.getD_eq_getElem?_getD]
        exact hc k (by omega)
end

/-- A cursor of the call's own at block g: its bytes lie below B. -/
def Cur (w : World) (B g : Nat) : Prop :=
  ∃ (v : Value) (n i : Nat) (h : Int), RdB w B v n ∧ i ≤ n ∧ w.ownsRow B 70 3 (.slice (some ⟨g, 0, none⟩) 1 1) 1 [v, .int .i64 i, .int .i64 h]
/-- The block of the cursor, as a slice's. -/
def curV (g : Nat) : Value := .slice (some ⟨g, 0, none⟩) 1 1
theorem Cur.lt {w : World} {B g : Nat} (h : Cur w B g) : ∀ k, (curV g).ownBlock = some k → B ≤ k ∧ k < w.heap.size := by
  obtain ⟨v, n, i, h, h1, h2, h3⟩ := h
  exact World.ownsRow.lt h3
theorem Cur.lt' {w : World} {B g : Nat} (h : Cur w B g) : B ≤ g ∧ g < w.heap.size := h.lt g rfl
theorem Cur.below {w w' : World} {B g : Nat} (h : Cur w B g) (hb : Below w.heap.size w w') : Cur w' B g := by
  obtain ⟨v, n, i, h, h1, h2, h3⟩ := h
  exact ⟨v, n, i, h, h1.below hb, h2, own_below h3 hb⟩
theorem Cur.kept {w w' : World} {B g : Nat} {u : Value} (h : Cur w B g) (hg : w.grownBy w' u.ownBlock) (hu : ∀ k, u.ownBlock = some k → B ≤ k) (hd : Dis (curV g) u) : Cur w' B g := by
  obtain ⟨v, n, i, h, h1, h2, h3⟩ := h
  refine ⟨v, n, i, h, ?_, h2, World.ownsRow.kept h3 hg hd⟩
  rcases hk : u.ownBlock with _ | k
  · rw [hk] at hg
    exact h1.below (Below.refl _ _ |>.grown hg (Nat.le_refl _) (by simp))
  · rw [hk] at hg
    exact h1.kept hg (hu k hk)
theorem Cur.made {w : World} {B : Nat} {v : Value} {n : Nat} {x : Int} (h : RdB w B v n) (hB : B ≤ w.heap.size) : Cur (w.alloc (.cells #[v, .int .i64 0, .int .i64 x] 70)) B w.heap.size := by
  refine ⟨v, n, 0, x, h.below (below_alloc1 _ _), Nat.zero_le _, ?_⟩
  exact World.ownsRow_lit w #[v, .int .i64 0, .int .i64 x] 1 hB (by rw [maxLen_eq]; omega) rfl

theorem and_bd (x : Int) (m : Nat) (hm : m < 4611686018427387904) : 0 ≤ bits .and .i64 x m ∧ bits .and .i64 x m ≤ m := by
  have h2 : (BitVec.ofInt 64 (m : Int)).toNat = m := by rw [BitVec.ofInt_natCast, BitVec.toNat_ofNat]; exact Nat.mod_eq_of_lt (by omega)
  have h : bits .and .i64 x m = IntKind.i64.wrap ((BitVec.ofInt 64 x &&& BitVec.ofInt 64 (m : Int)).toNat : Int) := rfl
  rw [h, BitVec.toNat_and, h2]
  have hle : (BitVec.ofInt 64 x).toNat &&& m ≤ m := Nat.and_le_right
  rw [IntWalk.i64_in _ (by omega)]
  omega

theorem l01New_any (n : Nat) (v : Value) (w : World) (h : RdB w w.heap.size v n) :
    Calls Try.prog 40 #[v] w fun e w' => ∃ g, e = .returned (.pointer (some ⟨g, 0, none⟩)) ∧ Cur w' w.heap.size g ∧ Below w.heap.size w w' := by
  have HR := Lib.hid h
  obtain ⟨ad, cap, bl, off, rfl, hcap, hmax, had, hc⟩ := h
  have HC := Lib.hid hc
  clear hc
  go_enter Try.func40, Try.ntmps40
  go_wp2
  go_loopw [3, 4] (fun x i wr => ∃ (k : Nat) (y : Int), k ≤ n ∧ i = .int .i64 k ∧ x = .int .i64 y ∧ wr = w) (fun _ i _ => n - (intOf i).toNat)
  case atStart => exact ⟨0, _, Nat.zero_le _, rfl, rfl, rfl⟩
  case round =>
    obtain ⟨k, y, hk, rfl, rfl, rfl⟩ := hrel
    by_cases hlt : k < n
    · obtain ⟨rfl, hbl⟩ := had (by omega)
      obtain ⟨x, hck, hx0, hx1⟩ := HC.out k hlt
      by_cases h4 : (k : Int) < 4000
      · go_wp2
        exact ⟨⟨k + 1, _, by omega, by go_num, rfl, trivial⟩, by simp [intOf]; omega⟩
      · go_wp2
        go_ret
        exact ⟨_, rfl, Cur.made HR.out (Nat.le_refl _), below_alloc1 _ _⟩
    · go_wp2
      go_ret
      exact ⟨_, rfl, Cur.made HR.out (Nat.le_refl _), below_alloc1 _ _⟩

theorem grown_drewN {w w' : World} {r : Option Nat} (h : w.grownBy w' r) (n : Nat) : w.grownBy (w'.drewN n) r := ⟨h.os, h.tape, h.output, h.size, h.block⟩
theorem l01Byte_any (B g : Nat) (w : World) (h : Cur w B g) :
    Calls Try.prog 70 #[.pointer (some ⟨g, 0, none⟩)] w fun e w' => ∃ x : Int, e = .returned (.int .i64 x) ∧ 0 ≤ x ∧ x ≤ 255 ∧ Cur w' B g ∧ w.grownBy w' (curV g).ownBlock := by
  obtain ⟨v, n, i, q, hr, hi, ho⟩ := h
  obtain ⟨hBg, hgw⟩ := World.ownsRow.lt ho g rfl
  have c0 := World.ownsRow.cellAt ho 0 (by omega)
  have c1 := World.ownsRow.cellAt ho 1 (by omega)
  have c2 := World.ownsRow.cellAt ho 2 (by omega)
  have f1 := World.ownsRow.frozenAt ho 1
  have f2 := World.ownsRow.frozenAt ho 2
  simp only [List.getElem?_cons_succ, List.getElem?_cons_zero] at c0 c1 c2
  have HR := Lib.hid hr
  obtain ⟨ad, cap, bl, off, rfl, hcap, hmax, had, hc⟩ := hr
  clear hc
  have HO := Lib.hid ho
  clear ho
  go_enter Try.func70, Try.ntmps70
  go_wp2
  go_quiet (fail)
  generalize wrap64 (wrap64 (q * 6364136223846793005) + 1442695040888963407) = y
  have hX := and_bd (bits BinOp.xor IntKind.i64 (y / 8589934592) (y / 35184372088832)) 255 (by omega)
  simp only [Int.cast_ofNat_Int] at hX
  generalize bits BinOp.and IntKind.i64 (bits BinOp.xor IntKind.i64 (y / 8589934592) (y / 35184372088832)) 255 = X at hX
  obtain ⟨hX0, hX1⟩ := hX
  have hst := World.ownsRow.stored HO.out 2 (.int .i64 y)
  simp only [List.set_cons_succ, List.set_cons_zero] at hst
  obtain ⟨W2, HW2⟩ : ∃ W2, W2 = (w.setCell ⟨g, 2, none⟩ (.int .i64 y)).drewN nq := ⟨_, rfl⟩
  have ho : W2.ownsRow B 70 3 (.slice (some ⟨g, 0, none⟩) 1 1) 1 [.slice ad n cap, .int .i64 i, .int .i64 y] := by rw [HW2]; exact hst.1
  have hg : w.grownBy W2 (some g) := by rw [HW2]; exact ⟨hst.2.os, hst.2.tape, hst.2.output, hst.2.size, hst.2.block⟩
  rw [← HW2]
  clear HW2 hst HO c0 c1 c2 f1 f2
  have c0 := World.ownsRow.cellAt ho 0 (by omega)
  have c1 := World.ownsRow.cellAt ho 1 (by omega)
  have f1 := World.ownsRow.frozenAt ho 1
  simp only [List.getElem?_cons_succ, List.getElem?_cons_zero] at c0 c1
  have HR2 := Lib.hid (HR.out.kept hg hBg)
  clear HR
  have HO := Lib.hid ho
  have HG := Lib.hid hg
  clear ho hg
  by_cases hlt : i < n
  · obtain ⟨rfl, hbl⟩ := had (by omega)
    obtain ⟨x, hck⟩ : ∃ x, W2.cell? ⟨bl, off + i, none⟩ = some (.int .u8 x) := by
      obtain ⟨_, _, b', off', he, _, _, h3, h4⟩ := HR2.out
      simp only [Value.slice.injEq] at he
      obtain ⟨rfl, _, rfl⟩ := he
      have h5 := (h3 (by omega)).1
      simp only [Option.some.injEq, Addr.mk.injEq] at h5
      obtain ⟨rfl, rfl, _⟩ := h5
      obtain ⟨x, hc, _⟩ := h4 i hlt
      exact ⟨x, hc⟩
    have q1 : (i : Int) < (n : Int) := by omega
    go_wp2
    go_quiet (fail)
    go_wp2
    go_quiet (fail)
    go_wp2
    go_ret
    have hs := fun m : Nat => World.ownsRow.stored (w := W2.drewN m) HO.out 1 (.int .i64 ((i + 1 : Nat) : Int))
    simp only [List.set_cons_succ, List.set_cons_zero] at hs
    rw [show (i : Int) + 1 = ((i + 1 : Nat) : Int) from by omega]
    exact ⟨_, rfl, (and_bd _ 255 (by omega)).1, (and_bd _ 255 (by omega)).2, ⟨_, n, i + 1, y, (HR2.out.drewN _).kept (hs _).2 hBg, by omega, (hs _).1⟩, grownBy_trans (grown_drewN HG.out _) (hs _).2⟩
  · have q1 : ¬ (i : Int) < (n : Int) := by omega
    go_wp2
    go_quiet (fail)
    go_wp2
    go_ret
    exact ⟨X, rfl, hX0, hX1, ⟨_, n, i, y, HR2.out, hi, HO.out⟩, grown_drewN HG.out _⟩

/-- What a draw below n is. -/
theorem l01Below_any (B g : Nat) (n : Int) (hn : n ≤ 9223372036854775807) (w : World) (h : Cur w B g) :
    Calls Try.prog 62 #[.pointer (some ⟨g, 0, none⟩), .int .i64 n] w fun e w' => ∃ x : Int, e = .returned (.int .i64 x) ∧ 0 ≤ x ∧ (0 < n → x < n) ∧ (n ≤ 0 → x = 0) ∧ Cur w' B g ∧ w.grownBy w' (curV g).ownBlock := by
  by_cases h0 : n ≤ 0
  · go_enter Try.func62, Try.ntmps62
    go_wp2
    go_ret
    exact ⟨0, rfl, Int.le_refl _, by omega, fun _ => rfl, h, World.grownBy.refl _ _⟩
  · by_cases h1 : n ≤ 256
    · go_enter Try.func62, Try.ntmps62
      go_wp2_with (fail)
      refine (l01Byte_any B g _ h).mono ?_
      rintro e w1 ⟨x, rfl, x0, x1, hc, hg⟩
      go_wp2_with (fail)
      go_ret
      exact ⟨_, rfl, Int.emod_nonneg _ (by omega), fun _ => Int.emod_lt_of_pos _ (by omega), by omega, hc, hg⟩
    · go_enter Try.func62, Try.ntmps62
      go_wp2_with (fail)
      refine (l01Byte_any B g _ h).mono ?_
      rintro e w1 ⟨x, rfl, x0, x1, hc1, hg1⟩
      go_wp2_with (fail)
      refine (l01Byte_any B g _ hc1).mono ?_
      rintro e w2 ⟨y, rfl, y0, y1, hc2, hg2⟩
      go_wp2_with (fail)
      refine (l01Byte_any B g _ hc2).mono ?_
      rintro e w3 ⟨z, rfl, z0, z1, hc3, hg3⟩
      go_wp2_with (fail)
      refine (l01Byte_any B g _ hc3).mono ?_
      rintro e w4 ⟨q, rfl, q0, q1, hc4, hg4⟩
      go_wp2_with (fail)
      go_ret
      exact ⟨_, rfl, Int.emod_nonneg _ (by omega), fun _ => Int.emod_lt_of_pos _ (by omega), by omega, hc4, grownBy_trans hg1 (grownBy_trans hg2 (grownBy_trans hg3 hg4))⟩

theorem dis_cur {w : World} {g C : Nat} {v : Value} (h : ∀ k, v.ownBlock = some k → C ≤ k ∧ k < w.heap.size) (hg : g < C) : Dis v (curV g) := by
  rcases hv : v.ownBlock with _ | k
  · exact .inl hv
  · refine .inr fun e => ?_
    rw [hv] at e
    have h1 := (h k hv).1
    simp [curV, Value.ownBlock] at e
    omega
theorem dis_cur' {w : World} {g C : Nat} {v : Value} (h : ∀ k, v.ownBlock = some k → C ≤ k ∧ k < w.heap.size) (hg : g < C) : Dis (curV g) v := by
  refine .inr fun e => ?_
  have h1 := (h g (by rw [← e]; rfl)).1
  omega
theorem below_cur {B g : Nat} {a w w' : World} (h : Below B a w) (hg : w.grownBy w' (curV g).ownBlock) (hB : B ≤ g) (hs : B ≤ w.heap.size) : Below B a w' :=
  h.grown hg hs (fun k hk => by simp [curV, Value.ownBlock] at hk; omega)

theorem big_any (n : Nat) (B : Nat) (v : Value) (w : World) (h : RdB w B v n) : Calls Try.prog 10 #[v] w fun e w' => e = .returned (.bool (decide (1048576 < n))) ∧ w = w' := by
  obtain ⟨a, cap, rfl, hmax⟩ := h.shape
  go_enter Try.func10, Try.ntmps10
  go_wp2
  go_ret
  exact ⟨ret_bool (decide_eq_decide.2 (by omega)), rfl⟩
theorem at_any (n : Nat) (i : Int) (h0 : 0 ≤ i) (h1 : i ≤ 1000000) (B : Nat) (v : Value) (w : World) (h : RdB w B v n) :
    Calls Try.prog 21 #[v, .int .i64 i] w fun e w' => ∃ x : Int, e = .returned (.int .i64 x) ∧ 0 ≤ x ∧ x ≤ 255 ∧ Dr w w' := by
  obtain ⟨ad, cap, bl, off, rfl, hcap, hmax, had, hc⟩ := h
  by_cases hn : n = 0
  · subst hn
    go_enter Try.func21, Try.ntmps21
    go_wp2
    go_ret
    exact ⟨0, rfl, by omega, by omega, Dr.refl _⟩
  · obtain ⟨rfl, hbl⟩ := had (by omega)
    obtain ⟨j, hj⟩ : ∃ j : Nat, (i * 5 + 1) % (n : Int) = j := ⟨((i * 5 + 1) % (n : Int)).toNat, by rw [Int.toNat_of_nonneg (Int.emod_nonneg _ (by omega))]⟩
    have hjn : j < n := by have := Int.emod_lt_of_pos (i * 5 + 1) (show (0 : Int) < n by omega); omega
    obtain ⟨x, hck, x0, x1⟩ := hc j hjn
    have hnb : ((n : Int) == 0) = false := beq_eq_false_iff_ne.2 (by omega)
    have hnz : ¬ (n : Int) = 0 := by omega
    go_enter Try.func21, Try.ntmps21
    go_wp2
    go_ret
    exact ⟨x, rfl, x0, x1, Dr.refl _⟩
end Go.Proofs.Ytfedhjfijcnpdaa
