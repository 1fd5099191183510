/- distances, BodyOk of the program. -/
import Derived.Test.YtfedhjfijcnpdaaBodyS
import Derived.StillTailTactics
namespace Go.Proofs.Ytfedhjfijcnpdaa
open Go.ChangeShapes Go.WideShapes Go.ChangeAt Go.RowKit Go.Joins Tr
set_option linter.unusedSimpArgs false
set_option linter.unusedVariables false
set_option maxRecDepth 20000

theorem fs_A {D : Nat → Int} {a b : Nat} {L : Int} (hab : a ≠ b) (ha : 0 ≤ D a) (hb : D b < 0) (hL : 1 ≤ L) : fs D (a, b, L) = upd D b (D a + L) := by
  have h1 : fs1 D a b L = upd D b (D a + L) := if_pos ⟨ha, hb⟩
  show fs1 (fs1 D a b L) b a L = _
  rw [h1]
  refine if_neg fun h => ?_
  rw [upd_ne hab] at h
  omega
theorem fs_no {D : Nat → Int} {a b : Nat} {L : Int} (h : ¬ (0 ≤ D a ∧ D b < 0)) : fs D (a, b, L) = fs1 D b a L := by
  show fs1 (fs1 D a b L) b a L = _
  rw [show fs1 D a b L = D from if_neg h]
theorem fs_B1 {D : Nat → Int} {a b : Nat} {L : Int} (hb : 0 ≤ D b) (ha : D a < 0) : fs D (a, b, L) = upd D a (D b + L) := by rw [fs_no (by omega)]; exact if_pos ⟨hb, ha⟩
theorem fs_B2 {D : Nat → Int} {a b : Nat} {L : Int} (hb : 0 ≤ D b) (ha : 0 ≤ D a) : fs D (a, b, L) = D := by rw [fs_no (by omega)]; exact if_neg (by omega)
theorem fs_B3 {D : Nat → Int} {a b : Nat} {L : Int} (hb : D b < 0) (ha : D a < 0) : fs D (a, b, L) = D := by rw [fs_no (by omega)]; exact if_neg (by omega)
theorem limbI_iff {J : Int} {l : LimbV} : limbI J l = true ↔ limbB J l = true ∧ l.1 ≠ l.2.1 := by simp [limbI]

set_option maxHeartbeats 1000000 in
theorem implDistances_any (N : Nat) (zs : List LimbV) (i : Nat) (u : Value) (w : World) (h : RdLimb w u zs) (hz : ∀ z ∈ zs, limbI N z = true) (hN : N ≤ 12) (hi : i < N) :
    Calls Try.prog 50 #[.agg #[.int .i64 N, u], .int .i64 i] w fun e w' => ∃ v, e = .returned v ∧ OwI w' w.heap.size v (distL N zs i) ∧ Below w.heap.size w w' := by
  obtain ⟨ad, cap, bl, off, rfl, hcap, hmax, had, hc⟩ := h.openC
  have hb0 := below_alloc1 w (.cells #[.int .i64 N, .slice ad zs.length cap] 26)
  have hx0 := BX.new w N (.slice ad zs.length cap)
  have hsa : (w.alloc (.cells #[.int .i64 N, .slice ad zs.length cap] 26)).heap.size = w.heap.size + 1 := by simp
  have HC := Lib.hid (hc.below hb0)
  have HZ := Lib.hid hz
  have HF := Lib.hid (fun r k => fillK_fil (fun z h => (limbI_iff.1 (hz z h)).1) hi r k)
  have hmk := run_make_row' (P := Try.prog) 27 3 (.int .i64 0) 8 underInts infoInt rfl .i64 .i64 N (by omega) (by omega)
  have hmade := OwI.made (w.alloc (.cells #[.int .i64 N, .slice ad zs.length cap] 26)) N (by omega)
  rw [rl_rep, hsa] at hmade
  have HO := Lib.hid (And.intro hmade (below_alloc1 (w.alloc (.cells #[.int .i64 N, .slice ad zs.length cap] 26)) (.cells (madeCells #[.int .i64 0] N) 3)))
  have HS := Lib.hid (And.intro hb0 (And.intro hx0 hsa))
  clear h hc hb0 hx0 hz hsa hmade
  go_enter Try.func50, Try.ntmps50
  go_wp2_with (fail)
  clear hmk
  generalize w.alloc (.cells #[.int .i64 N, .slice ad zs.length cap] 26) = w1 at HS HC HO ⊢
  generalize hwa : w1.alloc (.cells (madeCells #[.int .i64 0] N) 3) = wa at HO ⊢
  clear hwa
  obtain ⟨hB1, hX, hs1⟩ := HS.out
  have hs2 : w1.heap.size ≤ w.heap.size + 1 := by omega
  have HB1 := Lib.hid (And.intro hB1 hs1)
  clear HS hB1 hs1
  obtain ⟨hO, hB⟩ := HO.out
  clear HO
  go_loopw [14] (fun i wr => ∃ k : Nat, k ≤ N ∧ i = .int .i64 k ∧ OwI wr (w.heap.size + 1) (.slice (some ⟨w.heap.size + 1, 0, none⟩) N N) (rl N (fun v => if v < k then (-1 : Int) else 0)) ∧ Below w1.heap.size w1 wr) (fun i _ => N - (intOf i).toNat)
  case atStart => exact ⟨0, Nat.zero_le _, rfl, by simpa using hO, hB⟩
  case round =>
   focus
    clear hO hB
    obtain ⟨k, hk, rfl, hO, hB⟩ := hrel
    by_cases hlt : k < N
    · have qk : (k : Int) < (N : Int) := by omega
      obtain ⟨c0, f0⟩ := hO.rlc hlt
      obtain ⟨hO2, hg2⟩ := hO.rls k (-1)
      have hB2 := hO.grown_below hB hs2 hg2
      have e2 : rl N (upd (fun v => if v < k then (-1 : Int) else 0) k (-1)) = rl N (fun v => if v < k + 1 then (-1 : Int) else 0) := rl_congr fun v hv => by
        by_cases e : v = k
        · subst e; simp [upd]
        · rw [upd_ne e]
          have : (v < k + 1) = (v < k) := by simp; omega
          simp [this]
      rw [e2] at hO2
      have HQ := Lib.hid (And.intro hO2 hB2)
      clear hO hB hO2 hg2 hB2 e2
      go_wp2_with (fail)
      exact ⟨⟨k + 1, by omega, by go_num, HQ.out.1, HQ.out.2⟩, by simp [intOf]; omega⟩
    · have qi : (i : Int) < (N : Int) := by omega
      obtain ⟨c0, f0⟩ := hO.rlc hi
      obtain ⟨hO2, hg2⟩ := hO.rls i 0
      have hB2 := hO.grown_below hB hs2 hg2
      have e2 : rl N (upd (fun v => if v < k then (-1 : Int) else 0) i 0) = rl N (fill0 i) := rl_congr fun v hv => by
        unfold fill0
        by_cases e : v = i
        · subst e; simp [upd]
        · rw [upd_ne e, if_pos (by omega), if_neg e]
      rw [e2, ← fillK_zero zs i] at hO2
      obtain ⟨m0, m1⟩ := hX.below hB2
      have HQ := Lib.hid (And.intro hO2 hB2)
      clear hO hB hO2 hg2 hB2 e2
      go_wp2_with (fail)
      clear m0 m1 c0 f0
      go_loopw [26] (fun i' wr => ∃ r : Nat, r ≤ N ∧ i' = .int .i64 r ∧ OwI wr (w.heap.size + 1) (.slice (some ⟨w.heap.size + 1, 0, none⟩) N N) (rl N (fillK zs i r 0)) ∧ Below w1.heap.size w1 wr) (fun i _ => N - (intOf i).toNat)
      case atStart => exact ⟨0, Nat.zero_le _, rfl, HQ.out.1, HQ.out.2⟩
      case round =>
       focus
        clear HQ hlt
        obtain ⟨r, hr, rfl, hO, hB⟩ := hrel
        by_cases hlt : r < N
        · have qr : (r : Int) < (N : Int) := by omega
          obtain ⟨m0, m1⟩ := hX.below hB
          obtain ⟨wo, rfl⟩ : ∃ wo : World, wo = wr := ⟨_, rfl⟩
          go_wp2_with (fail)
          clear m0 m1
          go_loopw [31] (fun i' wr => ∃ k : Nat, k ≤ zs.length ∧ i' = .int .i64 k ∧ OwI wr (w.heap.size + 1) (.slice (some ⟨w.heap.size + 1, 0, none⟩) N N) (rl N (fillK zs i r k)) ∧ Below w1.heap.size w1 wr) (fun i _ => zs.length - (intOf i).toNat)
          case atStart => exact ⟨0, Nat.zero_le _, rfl, hO, hB⟩
          case round =>
           focus
            clear hO hB
            obtain ⟨k, hk, rfl, hO, hB⟩ := hrel
            by_cases hkl : k < zs.length
            · obtain rfl := had (by omega)
              obtain ⟨⟨a, b, L⟩, hz⟩ : ∃ x, zs[k]? = some x := ⟨_, List.getElem?_eq_getElem hkl⟩
              obtain ⟨c0, c1, c2⟩ := (HC.out.below hB) k _ hz
              obtain ⟨hl1, hne⟩ := limbI_iff.1 (HZ.out _ (List.mem_of_getElem? hz))
              obtain ⟨⟨a1, a2⟩, ⟨b1, b2⟩, l1, l2⟩ := limbB_iff.1 hl1
              dsimp only at c0 c1 c2 a1 a2 b1 b2 l1 l2 hne
              obtain ⟨a, rfl⟩ : ∃ m : Nat, a = m := ⟨a.toNat, by omega⟩
              obtain ⟨b, rfl⟩ : ∃ m : Nat, b = m := ⟨b.toNat, by omega⟩
              have hab : a ≠ b := by omega
              have ha3 : a < N := by omega
              have hb3 : b < N := by omega
              have hfn := fillK_next (i := i) (r := r) hz
              have hfl := HF.out r k
              unfold edgeOf at hfn
              dsimp only at hfn
              rw [Int.toNat_natCast, Int.toNat_natCast] at hfn
              generalize fillK zs i r k = D at hfn hfl hO
              have bda := hfl.bound ha3
              have bdb := hfl.bound hb3
              have qk : (k : Int) < (zs.length : Int) := by omega
              have qa : (a : Int) < (N : Int) := by omega
              have qb : (b : Int) < (N : Int) := by omega
              have hBa := hB.alloc hB.size (.cells #[.int .i64 (a : Int), .int .i64 (b : Int), .int .i64 L] 80)
              have hOa := hO.alloc (.cells #[.int .i64 (a : Int), .int .i64 (b : Int), .int .i64 L] 80)
              obtain ⟨d0, f0⟩ := hOa.rlc ha3
              obtain ⟨d1, f1⟩ := hOa.rlc hb3
              have HFN := Lib.hid hfn
              have hgl : w.heap.size + 1 ≠ wr.heap.size := by
                have := (hO.lt (w.heap.size + 1) rfl).2
                omega
              clear hz hl1 hne hfl hfn hO hB
              by_cases s1 : 0 ≤ D a
              · by_cases s2 : D b < 0
                · have HE := HFN.out
                  rw [fs_A hab s1 s2 l1] at HE
                  replace HE := Lib.hid HE
                  obtain ⟨q0, q1, q2⟩ : (wr.alloc (.cells #[.int .i64 (a : Int), .int .i64 (b : Int), .int .i64 L] 80)).cell? ⟨wr.heap.size, 0, none⟩ = some (.int .i64 (a : Int)) ∧ (wr.alloc (.cells #[.int .i64 (a : Int), .int .i64 (b : Int), .int .i64 L] 80)).cell? ⟨wr.heap.size, 1, none⟩ = some (.int .i64 (b : Int)) ∧ (wr.alloc (.cells #[.int .i64 (a : Int), .int .i64 (b : Int), .int .i64 L] 80)).cell? ⟨wr.heap.size, 2, none⟩ = some (.int .i64 L) := by refine ⟨?_, ?_, ?_⟩ <;> simp [go_sem]
                  obtain ⟨hO2, hg2⟩ := hOa.rls b (D a + L)
                  have hB2 := hOa.grown_below hBa hs2 hg2
                  obtain ⟨e0, _⟩ := hO2.rlc ha3
                  obtain ⟨e1, _⟩ := hO2.rlc hb3
                  rw [upd_ne hab] at e0
                  rw [upd_self] at e1
                  have s4 : 0 ≤ D a + L := by omega
                  have s5 : ¬ D a < 0 := by omega
                  have q0' := hg2.cell q0 (by simpa using hgl.symm)
                  have q1' := hg2.cell q1 (by simpa using hgl.symm)
                  have q2' := hg2.cell q2 (by simpa using hgl.symm)
                  have HQ := Lib.hid (And.intro hO2.drew hB2.drew)
                  have HE2 := Lib.hid (And.intro (And.intro e0 e1) (And.intro q0' (And.intro q1' q2')))
                  have HE1 := Lib.hid (And.intro q0 (And.intro q1 q2))
                  clear hOa hBa hO2 hg2 hB2 e0 e1 q0 q1 q2 q0' q1' q2'
                  go_wp2_with (fail)
                  generalize wr.alloc (.cells #[.int .i64 (a : Int), .int .i64 (b : Int), .int .i64 L] 80) = wl at HQ HE2 HE1 d0 f0 d1 f1 ⊢
                  generalize wr.heap.size = gl at HE2 HE1 hgl ⊢
                  obtain ⟨q0, q1, q2⟩ := HE1.out
                  go_still_tail 12, (by kernel_rfl)
                  go_wp2_with (fail)
                  exact ⟨⟨k + 1, by omega, by go_num, by rw [HE.out]; exact HQ.out.1, HQ.out.2⟩, by simp [intOf]; omega⟩
                · have s3 : 0 ≤ D b := by omega
                  have HE := HFN.out
                  rw [fs_B2 s3 s1] at HE
                  replace HE := Lib.hid HE
                  have HQ := Lib.hid (And.intro hOa hBa)
                  clear hOa hBa
                  go_wp2_with (fail)
                  exact ⟨⟨k + 1, by omega, by go_num, by rw [HE.out]; exact HQ.out.1, HQ.out.2⟩, by simp [intOf]; omega⟩
              · by_cases s2 : D b < 0
                · have s3 : ¬ 0 ≤ D b := by omega
                  have HE := HFN.out
                  rw [fs_B3 s2 (by omega)] at HE
                  replace HE := Lib.hid HE
                  have HQ := Lib.hid (And.intro hOa hBa)
                  clear hOa hBa
                  go_wp2_with (fail)
                  exact ⟨⟨k + 1, by omega, by go_num, by rw [HE.out]; exact HQ.out.1, HQ.out.2⟩, by simp [intOf]; omega⟩
                · have s3 : 0 ≤ D b := by omega
                  have HE := HFN.out
                  rw [fs_B1 s3 (by omega)] at HE
                  replace HE := Lib.hid HE
                  obtain ⟨q0, q1, q2⟩ : (wr.alloc (.cells #[.int .i64 (a : Int), .int .i64 (b : Int), .int .i64 L] 80)).cell? ⟨wr.heap.size, 0, none⟩ = some (.int .i64 (a : Int)) ∧ (wr.alloc (.cells #[.int .i64 (a : Int), .int .i64 (b : Int), .int .i64 L] 80)).cell? ⟨wr.heap.size, 1, none⟩ = some (.int .i64 (b : Int)) ∧ (wr.alloc (.cells #[.int .i64 (a : Int), .int .i64 (b : Int), .int .i64 L] 80)).cell? ⟨wr.heap.size, 2, none⟩ = some (.int .i64 L) := by refine ⟨?_, ?_, ?_⟩ <;> simp [go_sem]
                  obtain ⟨hO2, hg2⟩ := hOa.rls a (D b + L)
                  have hB2 := hOa.grown_below hBa hs2 hg2
                  have s4 : D a < 0 := by omega
                  have q0' := hg2.cell q0 (by simpa using hgl.symm)
                  have q1' := hg2.cell q1 (by simpa using hgl.symm)
                  have q2' := hg2.cell q2 (by simpa using hgl.symm)
                  have HQ := Lib.hid (And.intro hO2.drew hB2.drew)
                  have HE2 := Lib.hid (And.intro q0' (And.intro q1' q2'))
                  have HE1 := Lib.hid (And.intro q0 (And.intro q1 q2))
                  clear hOa hBa hO2 hg2 hB2 q0 q1 q2 q0' q1' q2'
                  go_wp2_with (fail)
                  generalize wr.alloc (.cells #[.int .i64 (a : Int), .int .i64 (b : Int), .int .i64 L] 80) = wl at HQ HE2 HE1 d0 f0 d1 f1 ⊢
                  generalize wr.heap.size = gl at HE2 HE1 hgl ⊢
                  obtain ⟨q0, q1, q2⟩ := HE1.out
                  go_still_tail 12, (by kernel_rfl)
                  go_wp2_with (fail)
                  exact ⟨⟨k + 1, by omega, by go_num, by rw [HE.out]; exact HQ.out.1, HQ.out.2⟩, by simp [intOf]; omega⟩
            · obtain rfl : k = zs.length := by omega
              rw [fillK_round] at hO
              have HQ := Lib.hid (And.intro hO hB)
              clear hO hB
              go_wp2_with (fail)
              exact ⟨⟨r + 1, by omega, by go_num, HQ.out.1, HQ.out.2⟩, by simp [intOf]; omega⟩
        · obtain rfl : r = N := by omega
          rw [fillK_end] at hO
          have HQ := Lib.hid (And.intro hO hB)
          obtain ⟨m0, m1⟩ := hX.below hB
          clear hO hB
          go_wp2_with (fail)
          go_ret
          refine ⟨_, rfl, ?_, bvia HB1.out.1 HQ.out.2⟩
          unfold distL
          rw [Int.toNat_natCast]
          exact HQ.out.1.base (by omega)
end Go.Proofs.Ytfedhjfijcnpdaa
