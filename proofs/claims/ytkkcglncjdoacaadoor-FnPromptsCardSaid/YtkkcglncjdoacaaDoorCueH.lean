/- The laws' helpers on cues: szCueS counts, toCueS copies, eqCueS compares two equal ones. -/
import Derived.Test.YtkkcglncjdoacaaDoorCue
import Derived.Test.YtkkcglncjdoacaaDoorRg
namespace Go.Proofs.YtkkcglncjdoacaaDoor
open Go.ChangeShapes Go.WideShapes Go.ChangeAt Go.RowKit Go.Joins
set_option maxRecDepth 20000
set_option linter.unusedSimpArgs false
set_option linter.unusedVariables false
theorem toCue_any (t : Int) (a p : List Int) (ha : a.length ≤ 1048576) (hp : p.length ≤ 1048576) (u1 u2 : Value) (w : World) (h1 : RdI w u1 a) (h2 : RdI w u2 p) :
    Calls Tryd.prog 16 #[.agg #[.int .i64 t, u1, u2]] w fun e w' => ∃ v1 v2, e = .returned (.agg #[.int .i64 t, v1, v2]) ∧ OwI w' w.heap.size v1 a ∧ OwI w' w.heap.size v2 p ∧ Below w.heap.size w w' := by
  obtain ⟨a1, c1, rfl⟩ := h1.shape
  obtain ⟨a2, c2, rfl⟩ := h2.shape
  have hB0 := below_alloc3 w (.cells #[.int .i64 t, .slice a1 a.length c1, .slice a2 p.length c2] 28) (.cells #[.int .i64 0, .slice none 0 0, .slice none 0 0] 31) (.cells #[.int .i64 t, .slice none 0 0, .slice none 0 0] 31)
  obtain ⟨W0, hW0⟩ : ∃ W0, ((w.alloc (.cells #[.int .i64 t, .slice a1 a.length c1, .slice a2 p.length c2] 28)).alloc (.cells #[.int .i64 0, .slice none 0 0, .slice none 0 0] 31)).alloc (.cells #[.int .i64 t, .slice none 0 0, .slice none 0 0] 31) = W0 := ⟨_, rfl⟩
  have c02 : W0.cell? ⟨w.heap.size, 2, none⟩ = some (.slice a2 p.length c2) := by rw [← hW0]; simp [go_sem]
  have o1 : W0.ownsRow (w.heap.size + 1) 31 3 (.slice (some ⟨w.heap.size + 1, 0, none⟩) 1 1) 1 [.int .i64 0, .slice none 0 0, .slice none 0 0] := by
    rw [← hW0]
    have h := World.ownsRow_lit (base := w.heap.size + 1) (e := 31) (size := 3) (w.alloc (.cells #[.int .i64 t, .slice a1 a.length c1, .slice a2 p.length c2] 28)) #[.int .i64 0, .slice none 0 0, .slice none 0 0] 1 (by simp) (by rw [maxLen_eq]; omega) rfl
    rw [show (w.alloc (.cells #[.int .i64 t, .slice a1 a.length c1, .slice a2 p.length c2] 28)).heap.size = w.heap.size + 1 by simp] at h
    exact World.ownsRow.alloc h _
  have o2 : W0.ownsRow (w.heap.size + 1) 31 3 (.slice (some ⟨w.heap.size + 1 + 1, 0, none⟩) 1 1) 1 [.int .i64 t, .slice none 0 0, .slice none 0 0] := by
    rw [← hW0]
    have h := World.ownsRow_lit (base := w.heap.size + 1) (e := 31) (size := 3) ((w.alloc (.cells #[.int .i64 t, .slice a1 a.length c1, .slice a2 p.length c2] 28)).alloc (.cells #[.int .i64 0, .slice none 0 0, .slice none 0 0] 31)) #[.int .i64 t, .slice none 0 0, .slice none 0 0] 1 (by simp) (by rw [maxLen_eq]; omega) rfl
    rw [show ((w.alloc (.cells #[.int .i64 t, .slice a1 a.length c1, .slice a2 p.length c2] 28)).alloc (.cells #[.int .i64 0, .slice none 0 0, .slice none 0 0] 31)).heap.size = w.heap.size + 1 + 1 by simp] at h
    exact h
  have hs0 : W0.heap.size = w.heap.size + 1 + 1 + 1 := by rw [← hW0]; simp
  rw [hW0] at hB0
  have HW0 := Lib.hid hW0
  clear hW0
  have HC0 := Lib.hid c02
  clear c02
  have HS := Lib.hid (And.intro o1 (And.intro o2 hs0))
  clear o1 o2 hs0
  go_enter Tryd.func16, Tryd.ntmps16
  go_wp2_with (fail)
  rw [HW0.out]
  have c02 := HC0.out
  clear HW0 HC0
  refine (toIntS_any a ha _ _ (h1.below hB0)).mono ?_
  rintro e w1 ⟨v1, rfl, ov1, hb⟩
  obtain ⟨x1, y1, rfl⟩ := ov1.rd.shape
  obtain ⟨o1, o2, hs0⟩ := HS.out
  rw [hs0] at ov1
  replace o1 := own_below o1 hb
  replace o2 := own_below o2 hb
  replace c02 := cell_on hb c02
  have hB1 := bvia hB0 hb
  clear hb HS hB0 hs0
  have st := World.ownsRow.stored o2 1 (.slice x1 a.length y1)
  have f1 := World.ownsRow.frozenAt o2 1
  have d1 := World.ownsRow.cellAt o2 1 (by omega)
  have hd1 : Dis (.slice x1 a.length y1) (.slice (some ⟨w.heap.size + 1 + 1, 0, none⟩) 1 1) := (dis_lt (fun q hq => by simp [Value.ownBlock] at hq; omega) (fun q hq => (ov1.lt q hq).1)).symm
  have ov1' := ov1.kept st.2 hd1
  have hd12 : Dis (.slice (some ⟨w.heap.size + 1, 0, none⟩) 1 1) (.slice (some ⟨w.heap.size + 1 + 1, 0, none⟩) 1 1) := dis_addr (by omega)
  have o1' := World.ownsRow.kept o1 st.2 hd12
  have c02' := st.2.cell c02 (by simp; omega)
  have o2' := st.1
  simp only [List.set_cons_succ, List.set_cons_zero] at o2'
  have hB2 : Below w.heap.size w (w1.setCell ⟨w.heap.size + 1 + 1, 1, none⟩ (.slice x1 a.length y1)) := hB1.setCell (by simp; omega) _
  obtain ⟨W1, hW1⟩ : ∃ W1, w1.setCell ⟨w.heap.size + 1 + 1, 1, none⟩ (.slice x1 a.length y1) = W1 := ⟨_, rfl⟩
  rw [hW1] at ov1' o1' c02' o2' hB2
  have HS := Lib.hid (And.intro o1' (And.intro o2' (And.intro ov1' hB2)))
  have HC := Lib.hid c02'
  have HW1 := Lib.hid hW1
  simp only [List.getElem?_cons_succ, List.getElem?_cons_zero] at d1
  clear st o1 o2 ov1 hd1 o1' o2' ov1' c02' hB1 hW1 hB2
  go_wp2_with (fail)
  · rw [HW1.out]
    obtain ⟨o1, o2, ov1, hB2⟩ := HS.out
    refine (toIntS_any p hp _ _ (h2.below hB2)).mono ?_
    rintro e w2 ⟨v2, rfl, ov2, hb⟩
    obtain ⟨x2, y2, rfl⟩ := ov2.rd.shape
    have hs1 : w.heap.size + 1 + 1 < W1.heap.size := (World.ownsRow.lt o2 _ rfl).2
    replace o1 := own_below o1 hb
    replace o2 := own_below o2 hb
    replace ov1 := ov1.below hb
    have hB3 := bvia hB2 hb
    clear hb HS HC HW1 hB2 c02 d1 f1
    have st := World.ownsRow.stored o2 2 (.slice x2 p.length y2)
    have f1 := World.ownsRow.frozenAt o2 2
    have d1 := World.ownsRow.cellAt o2 2 (by omega)
    have hd2 : Dis (.slice x2 p.length y2) (.slice (some ⟨w.heap.size + 1 + 1, 0, none⟩) 1 1) := (dis_lt (fun q hq => by simp [Value.ownBlock] at hq; omega) (fun q hq => (ov2.lt q hq).1)).symm
    have hd1 : Dis (.slice x1 a.length y1) (.slice (some ⟨w.heap.size + 1 + 1, 0, none⟩) 1 1) := (dis_lt (fun q hq => by simp [Value.ownBlock] at hq; omega) (fun q hq => (ov1.lt q hq).1)).symm
    have ov1' := ov1.kept st.2 hd1
    have ov2' := (ov2.base (show w.heap.size ≤ W1.heap.size by omega)).kept st.2 hd2
    have o1' := World.ownsRow.kept o1 st.2 hd12
    have o2' := st.1
    simp only [List.set_cons_succ, List.set_cons_zero] at o2'
    have hB4 : Below w.heap.size w (w2.setCell ⟨w.heap.size + 1 + 1, 2, none⟩ (.slice x2 p.length y2)) := hB3.setCell (by simp; omega) _
    have e0 := World.ownsRow.cellAt o2 0 (by omega)
    have e1 := World.ownsRow.cellAt o2 1 (by omega)
    have g0 := World.ownsRow.cellAt o1 0 (by omega)
    have g1 := World.ownsRow.cellAt o1 1 (by omega)
    have g2 := World.ownsRow.cellAt o1 2 (by omega)
    have k0 := World.ownsRow.frozenAt o1 0
    have k1 := World.ownsRow.frozenAt o1 1
    have k2 := World.ownsRow.frozenAt o1 2
    simp only [List.getElem?_cons_succ, List.getElem?_cons_zero] at d1 e0 e1 g0 g1 g2
    have s0 := World.ownsRow.stored o1' 0 (.int .i64 t)
    have s1 := World.ownsRow.stored s0.1 1 (.slice x1 a.length y1)
    have s2 := World.ownsRow.stored s1.1 2 (.slice x2 p.length y2)
    have m0 := World.ownsRow.cellAt s0.1 0 (by omega)
    have m1 := World.ownsRow.cellAt s1.1 1 (by omega)
    have m2 := World.ownsRow.cellAt s2.1 2 (by omega)
    simp only [List.set_cons_succ, List.set_cons_zero, List.getElem?_cons_succ, List.getElem?_cons_zero] at m0 m1 m2
    have hv1 : Dis (.slice x1 a.length y1) (.slice (some ⟨w.heap.size + 1, 0, none⟩) 1 1) := (dis_lt (fun q hq => by simp [Value.ownBlock] at hq; omega) (fun q hq => (ov1.lt q hq).1)).symm
    have hv2 : Dis (.slice x2 p.length y2) (.slice (some ⟨w.heap.size + 1, 0, none⟩) 1 1) := (dis_lt (fun q hq => by simp [Value.ownBlock] at hq; omega) (fun q hq => (ov2.lt q hq).1)).symm
    have r1 := ((ov1'.kept s0.2 hv1).kept s1.2 hv1).kept s2.2 hv1
    have r2 := ((ov2'.kept s0.2 hv2).kept s1.2 hv2).kept s2.2 hv2
    have hB5 := ((hB4.setCell (p := ⟨w.heap.size + 1, 0, none⟩) (by simp) (.int .i64 t)).setCell (p := ⟨w.heap.size + 1, 1, none⟩) (by simp) (.slice x1 a.length y1)).setCell (p := ⟨w.heap.size + 1, 2, none⟩) (by simp) (.slice x2 p.length y2)
    have HF := Lib.hid (And.intro (r1.base (show w.heap.size ≤ w.heap.size + 1 + 1 + 1 by omega)) (And.intro r2 hB5))
    clear s0 s1 s2 hv1 hv2 r1 r2 hB5 hB4 hB3 ov1 ov2 ov1' ov2' o1' o2' st hd1 hd2 o1 o2 hd12
    go_wp2_with (fail)
    (try simp only [Exit.inBlock, Exit.then])
    refine bodyPost_ret (by simp [results, Tryd.results16, go_sem, m0, m1, m2]; try rfl) rfl ?_
    exact ⟨_, _, rfl, HF.out⟩

def szC (z : CueV) : Nat := z.2.1.length + z.2.2.length
def totC : List CueV → Nat
  | [] => 0
  | z :: r => szC z + totC r
theorem totC_append (a b : List CueV) : totC (a ++ b) = totC a + totC b := by
  induction a with
  | nil => simp [totC]
  | cons y r ih => simp only [List.cons_append, totC, ih]; omega
theorem totC_mem {zs : List CueV} {z : CueV} (h : z ∈ zs) : szC z ≤ totC zs := by
  induction zs with
  | nil => simp at h
  | cons y r ih =>
    simp only [totC]
    rcases List.mem_cons.1 h with rfl | h
    · omega
    · have := ih h; omega
theorem getC {α : Type} {zs : List α} {k : Nat} (h : k < zs.length) : ∃ z, zs[k]? = some z ∧ z ∈ zs ∧ zs.drop k = z :: zs.drop (k + 1) ∧ zs.take (k + 1) = zs.take k ++ [z] := by
  have hk := List.getElem?_eq_getElem h
  refine ⟨_, hk, List.getElem_mem h, List.drop_eq_getElem_cons h, ?_⟩
  rw [List.take_succ_eq_append_getElem h]
theorem szIntS_ok (n : Nat) (a : Option Addr) (cap : Nat) (l : Int) (hl : l ≤ 1048576) (h : (n : Int) ≤ l) (w : World) :
    Calls Tryd.prog 42 #[.slice a n cap, .int .i64 l] w fun e w' => e = .returned (.int .i64 (l - n)) ∧ w = w' := by
  go_enter Tryd.func42, Tryd.ntmps42
  go_wp2
  go_ret
  exact ⟨rfl, rfl⟩
theorem szIntS_no (n : Nat) (a : Option Addr) (cap : Nat) (hn : n ≤ 9223372036854775807) (l : Int) (h0 : 0 ≤ l) (hl : l ≤ 1048576) (h : l < (n : Int)) (w : World) :
    Calls Tryd.prog 42 #[.slice a n cap, .int .i64 l] w fun e w' => e = .returned (.int .i64 (-1)) ∧ w = w' := by
  go_enter Tryd.func42, Tryd.ntmps42
  go_wp2
  go_ret
  exact ⟨rfl, rfl⟩
theorem szCue_ok (t : Int) (a1 a2 : Option Addr) (n1 n2 c1 c2 : Nat) (l : Int) (hl : l ≤ 1048576) (h : (n1 : Int) + n2 ≤ l) (w : World) :
    Calls Tryd.prog 14 #[.agg #[.int .i64 t, .slice a1 n1 c1, .slice a2 n2 c2], .int .i64 l] w fun e w' => e = .returned (.int .i64 (l - n1 - n2)) ∧ Below w.heap.size w w' := by
  have hb := below_alloc1 w (.cells #[.int .i64 t, .slice a1 n1 c1, .slice a2 n2 c2] 28)
  go_enter Tryd.func14, Tryd.ntmps14
  go_wp2_with (fail)
  refine (szIntS_ok _ _ _ _ hl (by omega) _).mono ?_
  rintro e w1 ⟨rfl, rfl⟩
  go_wp2_with (fail)
  refine (szIntS_ok _ _ _ _ (by omega) (by omega) _).mono ?_
  rintro e w1 ⟨rfl, rfl⟩
  go_wp2_with (fail)
  go_ret
  exact ⟨rfl, hb⟩
theorem szCue_no (t : Int) (a1 a2 : Option Addr) (n1 n2 c1 c2 : Nat) (hn1 : n1 ≤ 9223372036854775807) (hn2 : n2 ≤ 9223372036854775807) (l : Int) (h0 : 0 ≤ l) (hl : l ≤ 1048576) (h : l < (n1 : Int) + n2) (w : World) :
    Calls Tryd.prog 14 #[.agg #[.int .i64 t, .slice a1 n1 c1, .slice a2 n2 c2], .int .i64 l] w fun e w' => e = .returned (.int .i64 (-1)) ∧ Below w.heap.size w w' := by
  have hb := below_alloc1 w (.cells #[.int .i64 t, .slice a1 n1 c1, .slice a2 n2 c2] 28)
  by_cases h1 : (n1 : Int) ≤ l
  · go_enter Tryd.func14, Tryd.ntmps14
    go_wp2_with (fail)
    refine (szIntS_ok _ _ _ _ hl (by omega) _).mono ?_
    rintro e w1 ⟨rfl, rfl⟩
    go_wp2_with (fail)
    refine (szIntS_no _ _ _ hn2 _ (by omega) (by omega) (by omega) _).mono ?_
    rintro e w1 ⟨rfl, rfl⟩
    go_wp2_with (fail)
    go_ret
    exact ⟨rfl, hb⟩
  · go_enter Tryd.func14, Tryd.ntmps14
    go_wp2_with (fail)
    refine (szIntS_no _ _ _ hn1 _ (by omega) (by omega) (by omega) _).mono ?_
    rintro e w1 ⟨rfl, rfl⟩
    go_wp2_with (fail)
    go_ret
    exact ⟨rfl, hb⟩
theorem szCueS_any (zs : List CueV) (l : Int) (h0 : 0 ≤ l) (hl : l ≤ 1048576) (v : Value) (w : World) (hr : RdCue w v zs) :
    Calls Tryd.prog 19 #[v, .int .i64 l] w fun e w' => e = .returned (.int .i64 (if (zs.length : Int) + totC zs ≤ l then l - zs.length - totC zs else -1)) ∧ Below w.heap.size w w' := by
  obtain ⟨ad, cap, bl, off, rfl, hcap, hmax, had, hc⟩ := hr
  have HC := Lib.hid hc
  clear hc
  by_cases hn : (zs.length : Int) ≤ l
  · go_enter Tryd.func19, Tryd.ntmps19
    go_wp2
    go_loopw [1, 5] (fun q i wr => ∃ k : Nat, k ≤ zs.length ∧ i = .int .i64 k ∧ q = .int .i64 (l - zs.length - totC (zs.take k)) ∧ (zs.length : Int) + totC (zs.take k) ≤ l ∧ Below w.heap.size w wr) (fun _ i _ => zs.length - (intOf i).toNat)
    case atStart => exact ⟨0, Nat.zero_le _, rfl, by simp [totC], by simp [totC]; omega, Below.refl _ _⟩
    case round =>
      obtain ⟨k, hk, rfl, rfl, hle, hB⟩ := hrel
      by_cases hlt : k < zs.length
      · obtain rfl := had (by omega)
        obtain ⟨⟨t, a, p⟩, hz, hm, hd, ht⟩ := getC hlt
        obtain ⟨u1, u2, k0, k1, k2, r1, r2⟩ := HC.out k _ hz
        replace k0 := cell_on hB k0
        replace k1 := cell_on hB k1
        replace k2 := cell_on hB k2
        dsimp only at k0 r1 r2
        have hl1 := r1.len
        have hl2 := r2.len
        obtain ⟨a1, c1, rfl⟩ := r1.shape
        obtain ⟨a2, c2, rfl⟩ := r2.shape
        have ht1 : totC (zs.take (k + 1)) = totC (zs.take k) + (a.length + p.length) := by rw [ht, totC_append]; simp [totC, szC]
        have ht2 : totC zs = totC (zs.take (k + 1)) + totC (zs.drop (k + 1)) := by rw [← totC_append, List.take_append_drop]
        clear ht hd hm hz r1 r2
        by_cases hz : (a.length : Int) + p.length ≤ l - zs.length - totC (zs.take k)
        · go_wp2_with (fail)
          refine (szCue_ok _ _ _ _ _ _ _ _ (by omega) hz _).mono ?_
          rintro e w1 ⟨rfl, hb⟩
          replace hB := bvia hB hb
          clear hb
          go_wp2
          exact ⟨⟨k + 1, by omega, by go_num, by rw [ht1]; go_num, by omega, hB⟩, by simp [intOf]; omega⟩
        · go_wp2_with (fail)
          refine (szCue_no _ _ _ _ _ _ _ hl1 hl2 _ (by omega) (by omega) (by omega) _).mono ?_
          rintro e w1 ⟨rfl, hb⟩
          replace hB := bvia hB hb
          clear hb
          go_wp2
          go_ret
          exact ⟨by first | rfl | (rw [if_neg (by omega)]; rfl), hB⟩
      · obtain rfl : k = zs.length := by omega
        rw [List.take_length] at hle
        go_wp2
        go_ret
        exact ⟨by (try rw [List.take_length]); first | rfl | (rw [if_pos hle]; rfl), hB⟩
  · go_enter Tryd.func19, Tryd.ntmps19
    go_wp2
    go_ret
    exact ⟨by first | rfl | (rw [if_neg (by omega)]; rfl), Below.refl _ _⟩
theorem eqCue_any (t : Int) (a p : List Int) (u1 u2 v1 v2 : Value) (w : World) (h1 : RdI w u1 a) (h2 : RdI w u2 p) (k1 : RdI w v1 a) (k2 : RdI w v2 p) :
    Calls Tryd.prog 18 #[.agg #[.int .i64 t, u1, u2], .agg #[.int .i64 t, v1, v2]] w fun e w' => e = .returned (.bool true) ∧ Below w.heap.size w w' := by
  obtain ⟨a1, c1, rfl⟩ := h1.shape
  obtain ⟨a2, c2, rfl⟩ := h2.shape
  obtain ⟨b1, d1, rfl⟩ := k1.shape
  obtain ⟨b2, d2, rfl⟩ := k2.shape
  have hB0 := below_alloc2 w (.cells #[.int .i64 t, .slice a1 a.length c1, .slice a2 p.length c2] 31) (.cells #[.int .i64 t, .slice b1 a.length d1, .slice b2 p.length d2] 31)
  obtain ⟨W0, hW0⟩ : ∃ W0, (w.alloc (.cells #[.int .i64 t, .slice a1 a.length c1, .slice a2 p.length c2] 31)).alloc (.cells #[.int .i64 t, .slice b1 a.length d1, .slice b2 p.length d2] 31) = W0 := ⟨_, rfl⟩
  have q0 : W0.cell? ⟨w.heap.size, 2, none⟩ = some (.slice a2 p.length c2) := by rw [← hW0]; simp [go_sem]
  have q1 : W0.cell? ⟨w.heap.size + 1, 2, none⟩ = some (.slice b2 p.length d2) := by rw [← hW0]; simp [go_sem]
  rw [hW0] at hB0
  have HW0 := Lib.hid hW0
  have HQ := Lib.hid (And.intro q0 q1)
  clear hW0 q0 q1
  go_enter Tryd.func18, Tryd.ntmps18
  go_wp2_with (fail)
  rw [HW0.out]
  obtain ⟨q0, q1⟩ := HQ.out
  clear HW0 HQ
  refine (eqIntS_any a _ _ _ (h1.below hB0) (k1.below hB0)).mono ?_
  rintro e w1 ⟨rfl, hd⟩
  replace q0 := hd.cell q0
  replace q1 := hd.cell q1
  have hB := bvia hB0 hd.below
  clear hd hB0
  go_wp2_with (fail)
  refine (eqIntS_any p _ _ _ (h2.below hB) (k2.below hB)).mono ?_
  rintro e w2 ⟨rfl, hd⟩
  replace hB := bvia hB hd.below
  go_wp2_with (fail)
  go_ret
  exact ⟨rfl, hB⟩
theorem eqCueS_any (zs : List CueV) (v u : Value) (w : World) (h : RdCue w v zs) (h' : RdCue w u zs) :
    Calls Tryd.prog 23 #[v, u] w fun e w' => e = .returned (.bool true) ∧ Below w.heap.size w w' := by
  obtain ⟨ad, cap, bl, off, rfl, hcap, hmax, had, hc⟩ := h
  obtain ⟨ad', cap', bl', off', rfl, hcap', hmax', had', hc'⟩ := h'
  have HC := Lib.hid hc
  have HC' := Lib.hid hc'
  clear hc hc'
  go_enter Tryd.func23, Tryd.ntmps23
  go_wp2
  go_loopw [5] (fun i wr => ∃ k : Nat, k ≤ zs.length ∧ i = .int .i64 k ∧ Below w.heap.size w wr) (fun i _ => zs.length - (intOf i).toNat)
  case atStart => exact ⟨0, Nat.zero_le _, rfl, Below.refl _ _⟩
  case round =>
    obtain ⟨k, hk, rfl, hB⟩ := hrel
    by_cases hlt : k < zs.length
    · obtain rfl := had (by omega)
      obtain rfl := had' (by omega)
      obtain ⟨⟨t, a, p⟩, hz, _, _, _⟩ := getC hlt
      obtain ⟨u1, u2, k0, k1, k2, r1, r2⟩ := HC.out k _ hz
      obtain ⟨v1, v2, m0, m1, m2, s1, s2⟩ := HC'.out k _ hz
      replace k0 := cell_on hB k0
      replace k1 := cell_on hB k1
      replace k2 := cell_on hB k2
      replace m0 := cell_on hB m0
      replace m1 := cell_on hB m1
      replace m2 := cell_on hB m2
      dsimp only at k0 m0 r1 r2 s1 s2
      replace r1 := r1.below hB
      replace r2 := r2.below hB
      replace s1 := s1.below hB
      replace s2 := s2.below hB
      obtain ⟨a1, c1, rfl⟩ := r1.shape
      obtain ⟨a2, c2, rfl⟩ := r2.shape
      obtain ⟨b1, d1, rfl⟩ := s1.shape
      obtain ⟨b2, d2, rfl⟩ := s2.shape
      have HE := Lib.hid (eqCue_any t a p _ _ _ _ wr.drew (r1.drewN 1) (r2.drewN 1) (s1.drewN 1) (s2.drewN 1))
      replace k0 : wr.drew.cell? _ = _ := k0
      replace k1 : wr.drew.cell? _ = _ := k1
      replace k2 : wr.drew.cell? _ = _ := k2
      replace m0 : wr.drew.cell? _ = _ := m0
      replace m1 : wr.drew.cell? _ = _ := m1
      replace m2 : wr.drew.cell? _ = _ := m2
      have hB2 := hB.drew
      have q1 : (k : Int) < (zs.length : Int) := by omega
      clear hz r1 r2 s1 s2 hB
      go_wp2
      refine wp_region_held_drew (S := (fun w' => w'.cell? ⟨bl, off + k * 3, none⟩ = some (.int .i64 t) ∧ w'.cell? ⟨bl, off + k * 3 + 1, none⟩ = some (.slice a1 a.length c1) ∧ w'.cell? ⟨bl, off + k * 3 + 2, none⟩ = some (.slice a2 p.length c2) ∧ w'.cell? ⟨bl', off' + k * 3, none⟩ = some (.int .i64 t) ∧ w'.cell? ⟨bl', off' + k * 3 + 1, none⟩ = some (.slice b1 a.length d1) ∧ w'.cell? ⟨bl', off' + k * 3 + 2, none⟩ = some (.slice b2 p.length d2))) (by kernel_rfl) (by first | (dsimp only; done) | ((try dsimp only); exact ⟨k0, k1, k2, m0, m1, m2⟩)) (fun hHeld => ?_)
      refine takeI (i := 0) (oi := _) (v := _) (by simp only [List.getElem?_toArray, List.getElem?_cons_succ, List.getElem?_cons_zero]; exact rfl) ⟨by kernel_rfl, by kernel_rfl, by kernel_rfl, by exact fun _ _ _ h => h, Or.inl ⟨by rfl, by (intro w hSw; (try dsimp only at hSw); go_simp; (try with_reducible rfl))⟩, by assumption, ?_⟩
      try simp only [Act.put, List.setIfInBounds_toArray, List.set_cons_zero, List.set_cons_succ]
      refine takeI (i := 1) (oi := _) (v := _) (by simp only [List.getElem?_toArray, List.getElem?_cons_succ, List.getElem?_cons_zero]; exact rfl) ⟨by kernel_rfl, by kernel_rfl, by kernel_rfl, by exact fun _ _ _ h => h, Or.inl ⟨by rfl, by (intro w hSw; (try dsimp only at hSw); go_simp; (try with_reducible rfl))⟩, by assumption, ?_⟩
      try simp only [Act.put, List.setIfInBounds_toArray, List.set_cons_zero, List.set_cons_succ]
      refine takeI (i := 2) (oi := _) (v := _) (by simp only [List.getElem?_toArray, List.getElem?_cons_succ, List.getElem?_cons_zero]; exact rfl) ⟨by kernel_rfl, by kernel_rfl, by kernel_rfl, by exact fun _ _ _ h => h, Or.inl ⟨by rfl, by (intro w hSw; (try dsimp only at hSw); go_simp; (try with_reducible rfl))⟩, by assumption, ?_⟩
      try simp only [Act.put, List.setIfInBounds_toArray, List.set_cons_zero, List.set_cons_succ]
      refine takeI (i := 3) (oi := _) (v := _) (by simp only [List.getElem?_toArray, List.getElem?_cons_succ, List.getElem?_cons_zero]; exact rfl) ⟨by kernel_rfl, by kernel_rfl, by kernel_rfl, by exact fun _ _ _ h => h, Or.inl ⟨by rfl, by (intro w hSw; (try dsimp only at hSw); go_simp; (try with_reducible rfl))⟩, by assumption, ?_⟩
      try simp only [Act.put, List.setIfInBounds_toArray, List.set_cons_zero, List.set_cons_succ]
      refine takeI (i := 4) (oi := _) (v := _) (by simp only [List.getElem?_toArray, List.getElem?_cons_succ, List.getElem?_cons_zero]; exact rfl) ⟨by kernel_rfl, by kernel_rfl, by kernel_rfl, by exact fun _ _ _ h => h, Or.inl ⟨by rfl, by (intro w hSw; (try dsimp only at hSw); go_simp; (try with_reducible rfl))⟩, by assumption, ?_⟩
      try simp only [Act.put, List.setIfInBounds_toArray, List.set_cons_zero, List.set_cons_succ]
      refine takeI (i := 5) (oi := _) (v := _) (by simp only [List.getElem?_toArray, List.getElem?_cons_succ, List.getElem?_cons_zero]; exact rfl) ⟨by kernel_rfl, by kernel_rfl, by kernel_rfl, by exact fun _ _ _ h => h, Or.inl ⟨by rfl, by (intro w hSw; (try dsimp only at hSw); go_simp; (try with_reducible rfl))⟩, by assumption, ?_⟩
      try simp only [Act.put, List.setIfInBounds_toArray, List.set_cons_zero, List.set_cons_succ]
      refine takeI (i := 6) (oi := _) (v := _) (by simp only [List.getElem?_toArray, List.getElem?_cons_succ, List.getElem?_cons_zero]; exact rfl) ⟨by kernel_rfl, by kernel_rfl, by kernel_rfl, by exact fun _ _ _ h => h, Or.inl ⟨by rfl, by (intro w hSw; (try dsimp only at hSw); go_simp; (try with_reducible rfl))⟩, by assumption, ?_⟩
      try simp only [Act.put, List.setIfInBounds_toArray, List.set_cons_zero, List.set_cons_succ]
      refine takeI (i := 7) (oi := _) (v := _) (by simp only [List.getElem?_toArray, List.getElem?_cons_succ, List.getElem?_cons_zero]; exact rfl) ⟨by kernel_rfl, by kernel_rfl, by kernel_rfl, by exact fun _ _ _ h => h, Or.inl ⟨by rfl, by (intro w hSw; (try dsimp only at hSw); go_simp; (try with_reducible rfl))⟩, by assumption, ?_⟩
      try simp only [Act.put, List.setIfInBounds_toArray, List.set_cons_zero, List.set_cons_succ]
      refine wpAnyH_ready (rs := [8]) (by kernel_rfl) (by simp) ?_
      refine AllReadyH.cons (o := _) (by simp only [List.getElem?_toArray, List.getElem?_cons_succ, List.getElem?_cons_zero]; exact rfl) (fun K hK => ?_) AllReadyH.nil
      go_simp
      go_at_call 18; (refine HE.out.mono ?_; rintro e w1 ⟨rfl, hb1⟩; replace hB2 := bvia hB2 hb1; replace k0 := cell_on hb1 k0; replace k1 := cell_on hb1 k1; replace k2 := cell_on hb1 k2; replace m0 := cell_on hb1 m0; replace m1 := cell_on hb1 m1; replace m2 := cell_on hb1 m2; clear hb1)
      go_wp2_with fail
      refine hK.out _ _ (by first | (dsimp only; done) | ((try dsimp only); exact ⟨k0, k1, k2, m0, m1, m2⟩)) (fun hHeld => ?_)
      clear hK K
      try simp only [Act.put, List.setIfInBounds_toArray, List.set_cons_zero, List.set_cons_succ]
      refine takeI (i := 9) (oi := _) (v := _) (by simp only [List.getElem?_toArray, List.getElem?_cons_succ, List.getElem?_cons_zero]; exact rfl) ⟨by kernel_rfl, by kernel_rfl, by kernel_rfl, by exact fun _ _ _ h => h, Or.inl ⟨by rfl, by (intro w hSw; (try dsimp only at hSw); go_simp; (try with_reducible rfl))⟩, by assumption, ?_⟩
      try simp only [Act.put, List.setIfInBounds_toArray, List.set_cons_zero, List.set_cons_succ]
      refine wpAnyH_done (by kernel_rfl) ?_ _
      go_wp2
      exact ⟨⟨k + 1, by omega, by go_num, hB2⟩, by simp [intOf]; omega⟩
    · go_wp2
      go_ret
      exact ⟨rfl, hB⟩
theorem run_makeSCue (n : Nat) (hn : n ≤ 1048576) (w : World) :
    (Instr.makeSlice 38 (.int .i64 (n : Int)) (.int .i64 (n : Int))).run Tryd.prog w = .ok (.slice (some ⟨w.heap.size, 0, none⟩) n n) (w.alloc (.cells (madeCells (Value.cells (.agg #[.int .i64 0, .slice none 0 0, .slice none 0 0])) (n * 3)) 31)) := by
  obtain ⟨i0, hi, hz0, hz1, hz2⟩ := info_parts infoCue
  have hb : (i0.bytes : Int) * (n : Int) ≤ 281474976710656 := by rw [hz2]; omega
  have hr := run_make (P := Tryd.prog) w 38 31 i0 _ underCues hi hz0 .i64 .i64 n n (by omega) (Int.le_refl _) hb (by omega)
  simp only [Int.toNat_natCast, hz1] at hr
  exact hr
/-- The cells of the cues made so far. -/
def MadeC (w : World) (B : Nat) (g n k : Nat) (zs : List CueV) (xs : List Value) : Prop :=
  w.ownsRow B 31 3 (.slice (some ⟨g, 0, none⟩) n n) n xs ∧ ∀ (j : Nat) (z : CueV), j < k → zs[j]? = some z → ∃ u1 u2, xs[j * 3]? = some (.int .i64 z.1) ∧ xs[j * 3 + 1]? = some u1 ∧ xs[j * 3 + 2]? = some u2 ∧ OwI w (g + 1) u1 z.2.1 ∧ OwI w (g + 1) u2 z.2.2
theorem MadeC.below {w w' : World} {B g n k : Nat} {zs : List CueV} {xs : List Value} (h : MadeC w B g n k zs xs) (hb : Below w.heap.size w w') : MadeC w' B g n k zs xs := by
  refine ⟨own_below h.1 hb, fun j z hj hz => ?_⟩
  obtain ⟨u1, u2, c0, c1, c2, o1, o2⟩ := h.2 j z hj hz
  exact ⟨u1, u2, c0, c1, c2, o1.below hb, o2.below hb⟩
theorem MadeC.put {w : World} {B g n k : Nat} {zs : List CueV} {xs : List Value} {z : CueV} {v1 v2 : Value} (h : MadeC w B g n k zs xs) (hn : zs.length = n) (hz : zs[k]? = some z) (o1 : OwI w (g + 1) v1 z.2.1) (o2 : OwI w (g + 1) v2 z.2.2) :
    ∃ xs', MadeC (((w.setCell ⟨g, k * 3, none⟩ (.int .i64 z.1)).setCell ⟨g, k * 3 + 1, none⟩ v1).setCell ⟨g, k * 3 + 2, none⟩ v2) B g n (k + 1) zs xs' := by
  have hk := (List.getElem?_eq_some_iff.1 hz).1
  have hxl : xs.length = n * 3 := h.1.1
  have s0 := World.ownsRow.stored h.1 (k * 3) (.int .i64 z.1)
  have s1 := World.ownsRow.stored s0.1 (k * 3 + 1) v1
  have s2 := World.ownsRow.stored s1.1 (k * 3 + 2) v2
  have hd : ∀ {u : Value} {ys : List Int}, OwI w (g + 1) u ys → OwI (((w.setCell ⟨g, k * 3, none⟩ (.int .i64 z.1)).setCell ⟨g, k * 3 + 1, none⟩ v1).setCell ⟨g, k * 3 + 2, none⟩ v2) (g + 1) u ys := by
    intro u ys o
    have d : Dis u (.slice (some ⟨g, 0, none⟩) n n) := (dis_lt (fun q hq => by simp [Value.ownBlock] at hq; omega) (fun q hq => (o.lt q hq).1)).symm
    exact ((o.kept s0.2 d).kept s1.2 d).kept s2.2 d
  refine ⟨_, s2.1, fun j y hj hy => ?_⟩
  by_cases hjk : j < k
  · obtain ⟨u1, u2, c0, c1, c2, p1, p2⟩ := h.2 j y hjk hy
    refine ⟨u1, u2, ?_, ?_, ?_, hd p1, hd p2⟩
    · rw [List.getElem?_set_ne (by omega), List.getElem?_set_ne (by omega), List.getElem?_set_ne (by omega)]; exact c0
    · rw [List.getElem?_set_ne (by omega), List.getElem?_set_ne (by omega), List.getElem?_set_ne (by omega)]; exact c1
    · rw [List.getElem?_set_ne (by omega), List.getElem?_set_ne (by omega), List.getElem?_set_ne (by omega)]; exact c2
  · obtain rfl : j = k := by omega
    rw [hz] at hy
    simp only [Option.some.injEq] at hy
    subst hy
    refine ⟨v1, v2, ?_, ?_, ?_, hd o1, hd o2⟩
    · rw [List.getElem?_set_ne (by omega), List.getElem?_set_ne (by omega), List.getElem?_set_self (by omega)]
    · rw [List.getElem?_set_ne (by omega), List.getElem?_set_self (by simp; omega)]
    · rw [List.getElem?_set_self (by simp; omega)]
theorem toCueS_any (zs : List CueV) (hn : zs.length + totC zs ≤ 1048576) (v : Value) (w : World) (h : RdCue w v zs) :
    Calls Tryd.prog 21 #[v] w fun e w' => ∃ u, e = .returned u ∧ RdCue w' u zs ∧ Below w.heap.size w w' := by
  obtain ⟨ad, cap, bl, off, rfl, hcap, hmax, had, hc⟩ := h
  have HC := Lib.hid hc
  clear hc
  have hmk := run_makeSCue zs.length (by omega)
  have h0 := World.ownsRow_lit (base := w.heap.size) (e := 31) (size := 3) w (madeCells (Value.cells (.agg #[.int .i64 0, .slice none 0 0, .slice none 0 0])) (zs.length * 3)) zs.length (Nat.le_refl _) (by rw [maxLen_eq]; omega) (by rw [size_madeCells])
  have HO : Hid (∃ xs, MadeC (w.alloc (.cells (madeCells (Value.cells (.agg #[.int .i64 0, .slice none 0 0, .slice none 0 0])) (zs.length * 3)) 31)) w.heap.size w.heap.size zs.length 0 zs xs) := ⟨_, h0, fun j z hj => by omega⟩
  clear h0
  go_enter Tryd.func21, Tryd.ntmps21
  go_wp2
  clear hmk
  go_loopw [4] (fun i wr => ∃ k : Nat, k ≤ zs.length ∧ i = .int .i64 k ∧ Hid (∃ xs, MadeC wr w.heap.size w.heap.size zs.length k zs xs) ∧ Below w.heap.size w wr ∧ w.heap.size < wr.heap.size) (fun i _ => zs.length - (intOf i).toNat)
  case atStart => exact ⟨0, Nat.zero_le _, rfl, HO.out, below_alloc1 _ _, by simp⟩
  case round =>
    obtain ⟨k, hk, rfl, HI, hB, hgw⟩ := hrel
    by_cases hlt : k < zs.length
    · obtain rfl := had (by omega)
      obtain ⟨⟨t, a, p⟩, hz, hm, _, _⟩ := getC hlt
      obtain ⟨u1, u2, k0, k1, k2, r1, r2⟩ := HC.out k _ hz
      replace k0 := cell_on hB k0
      replace k1 := cell_on hB k1
      replace k2 := cell_on hB k2
      dsimp only at k0 r1 r2
      replace r1 := r1.below hB
      replace r2 := r2.below hB
      obtain ⟨a1, c1, rfl⟩ := r1.shape
      obtain ⟨a2, c2, rfl⟩ := r2.shape
      have hsz := totC_mem hm
      simp only [szC] at hsz
      have HZ := Lib.hid hz
      clear hz hm
      go_wp2_with (fail)
      refine (toCue_any t a p (by omega) (by omega) _ _ _ r1 r2).mono ?_
      rintro e w1 ⟨v1, v2, rfl, o1, o2, hb⟩
      obtain ⟨x1, y1, rfl⟩ := o1.rd.shape
      obtain ⟨x2, y2, rfl⟩ := o2.rd.shape
      obtain ⟨xs, hxs⟩ := HI.out
      replace hxs := hxs.below hb
      have hxl : xs.length = zs.length * 3 := hxs.1.1
      have e0 := World.ownsRow.cellAt hxs.1 (k * 3) (by omega)
      have e1 := World.ownsRow.cellAt hxs.1 (k * 3 + 1) (by omega)
      have e2 := World.ownsRow.cellAt hxs.1 (k * 3 + 2) (by omega)
      rw [List.getElem?_eq_getElem (by omega)] at e0 e1 e2
      have f0 := World.ownsRow.frozenAt hxs.1 (k * 3)
      have f1 := World.ownsRow.frozenAt hxs.1 (k * 3 + 1)
      have f2 := World.ownsRow.frozenAt hxs.1 (k * 3 + 2)
      have hput := hxs.put rfl HZ.out (o1.base (show w.heap.size + 1 ≤ wr.heap.size by omega)) (o2.base (show w.heap.size + 1 ≤ wr.heap.size by omega))
      have HP := Lib.hid hput
      have hB1 := bvia hB hb
      have hB2 := ((hB1.setCell (p := ⟨w.heap.size, k * 3, none⟩) (Nat.le_refl _) (.int .i64 t)).setCell (p := ⟨w.heap.size, k * 3 + 1, none⟩) (Nat.le_refl _) (.slice x1 a.length y1)).setCell (p := ⟨w.heap.size, k * 3 + 2, none⟩) (Nat.le_refl _) (.slice x2 p.length y2)
      have hgw2 : w.heap.size < ((((w1.setCell ⟨w.heap.size, k * 3, none⟩ (.int .i64 t)).setCell ⟨w.heap.size, k * 3 + 1, none⟩ (.slice x1 a.length y1)).setCell ⟨w.heap.size, k * 3 + 2, none⟩ (.slice x2 p.length y2))).heap.size := by have := hb.size; simp [World.setCell]; omega
      generalize xs[k * 3]'(by omega) = y0 at e0
      generalize xs[k * 3 + 1]'(by omega) = y1' at e1
      generalize xs[k * 3 + 2]'(by omega) = y2' at e2
      clear hxs hput HI o1 o2 r1 r2 hb hB1
      go_wp2_with (fail)
      exact ⟨⟨k + 1, by omega, by go_num, HP.out, hB2, hgw2⟩, by simp [intOf]; omega⟩
    · go_wp2
      go_ret
      obtain rfl : k = zs.length := by omega
      obtain ⟨xs, ho, hx⟩ := HI.out
      refine ⟨_, rfl, ⟨_, _, w.heap.size, 0, rfl, Nat.le_refl _, by omega, fun _ => rfl, fun j z hz => ?_⟩, hB⟩
      have hjl := (List.getElem?_eq_some_iff.1 hz).1
      obtain ⟨u1, u2, c0, c1, c2, o1, o2⟩ := hx j z hjl hz
      have e0 := World.ownsRow.cellAt ho (j * 3) (by omega)
      have e1 := World.ownsRow.cellAt ho (j * 3 + 1) (by omega)
      have e2 := World.ownsRow.cellAt ho (j * 3 + 2) (by omega)
      exact ⟨u1, u2, by rw [Nat.zero_add, e0, c0], by rw [Nat.zero_add, e1, c1], by rw [Nat.zero_add, e2, c2], o1.rd, o2.rd⟩
end Go.Proofs.YtkkcglncjdoacaaDoor
