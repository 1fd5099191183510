/- The draws of cues and of work. -/
import Derived.Test.YtkkcglncjdoacaaDoorCueOw
import Derived.Test.YtkkcglncjdoacaaDoorDrawn
import Derived.Test.YtkkcglncjdoacaaDoorHas
namespace Go.Proofs.YtkkcglncjdoacaaDoor
open Go.ChangeShapes Go.WideShapes Go.ChangeAt Go.RowKit Go.Joins
set_option linter.unusedSimpArgs false
set_option linter.unusedVariables false
set_option maxRecDepth 20000

theorem strict_of_pw (zs : List Int) : zs.Pairwise (· < ·) → strictB zs = true := by
  induction zs with
  | nil => intro _; rfl
  | cons x r ih =>
    cases r with
    | nil => intro _; rfl
    | cons y r =>
      intro h
      rw [strictB_cons, Bool.and_eq_true, decide_eq_true_eq]
      exact ⟨(List.pairwise_cons.1 h).1 y (by simp), ih (List.pairwise_cons.1 h).2⟩
/-- Numbers drawn in turn: rising, in 0 .. j - 1. -/
def Ups (A : List Int) (j : Nat) : Prop := A.Pairwise (· < ·) ∧ (∀ x ∈ A, 0 ≤ x ∧ x < j) ∧ A.length ≤ j
theorem Ups.nil : Ups [] 0 := ⟨List.Pairwise.nil, by simp, by simp⟩
theorem Ups.skip {A : List Int} {j : Nat} (h : Ups A j) : Ups A (j + 1) := ⟨h.1, fun x hx => by have := h.2.1 x hx; omega, by have := h.2.2; omega⟩
theorem Ups.push {A : List Int} {j : Nat} (h : Ups A j) : Ups (A ++ [(j : Int)]) (j + 1) := by
  refine ⟨?_, fun x hx => ?_, by have := h.2.2; simp; omega⟩
  · rw [List.pairwise_append]
    refine ⟨h.1, by simp, fun a ha b hb => ?_⟩
    simp at hb
    have := h.2.1 a ha
    omega
  · rcases List.mem_append.1 hx with hx | hx
    · have := h.2.1 x hx; omega
    · simp at hx; omega
theorem Ups.rises {A : List Int} {j : Nat} {m : Int} (h : Ups A j) (hm : (j : Int) - 1 ≤ m) : risesB A 0 m = true := by
  simp only [risesB, Bool.and_eq_true]
  exact ⟨strict_of_pw A h.1, List.all_eq_true.2 fun x hx => inB_true.2 (by have := h.2.1 x hx; omega)⟩
/-- The cell of a cue under way: its block gx. -/
def XC (w : World) (B gx : Nat) (cs : List Value) : Prop := w.ownsRow B 31 3 (.slice (some ⟨gx, 0, none⟩) 1 1) 1 cs
def xV (gx : Nat) : Value := .slice (some ⟨gx, 0, none⟩) 1 1
theorem dis_ne {g : Nat} {u : Value} (h : ∀ k, u.ownBlock = some k → k ≠ g) : Dis u (xV g) := by
  rcases hk : u.ownBlock with _ | k
  · exact .inl hk
  · refine .inr fun e => ?_
    rw [hk] at e
    simp [xV, Value.ownBlock] at e
    exact h k hk e
theorem drawn_snoc {zs : List CueV} (h : Drawn zs) {k : Nat} (hk : zs.length = k) (hk7 : k < 7) {t : Int} (ht : 1 ≤ t ∧ t ≤ 9) {A P : List Int} (hA : Ups A k) (hP : Ups P 5) : Drawn (zs ++ [(t, A, P)]) := by
  refine ⟨by simp; omega, fun j z hz => ?_⟩
  by_cases hj : j < zs.length
  · rw [List.getElem?_append_left hj] at hz
    exact h.2 j z hz
  · rw [List.getElem?_append_right (by omega)] at hz
    have hj0 : j - zs.length = 0 := by
      rcases Nat.eq_zero_or_pos (j - zs.length) with h0 | h0
      · exact h0
      · rw [List.getElem?_eq_none (by simp; omega)] at hz; simp at hz
    rw [hj0] at hz
    simp at hz
    subst hz
    exact ⟨ht, hA.rises (by omega), hP.rises (by omega)⟩
theorem dis_nil (u : Value) : Dis u (.slice none 0 0) := by
  rcases h : u.ownBlock with _ | k
  · exact .inl h
  · exact .inr (by rw [h]; simp [Value.ownBlock])
theorem dis_grow {u v v' : Value} {w : World} {B : Nat} {l : List Int} (o : OwI w B u l) (hd : Dis u v) (hfr : v'.ownBlock = v.ownBlock ∨ ∃ k, v'.ownBlock = some k ∧ w.heap.size ≤ k) : Dis u v' := by
  rcases hfr with h | ⟨q, h, hq⟩
  · unfold Dis
    rw [h]
    exact hd
  · exact dis_lt (C := w.heap.size) (fun k hk => (o.lt k hk).2) (fun k hk => by rw [h] at hk; simp at hk; omega)
theorem OwCue.lt {w : World} {B T : Nat} {v : Value} {zs : List CueV} (h : OwCue w B T v zs) : ∀ k, v.ownBlock = some k → B ≤ k := by
  obtain ⟨h0, xs, h1, h2⟩ := h
  exact fun k hk => (World.ownsRow.lt h1 k hk).1
theorem after_push {B0 H gx g : Nat} {w w4 w5 : World} {vo u : Value} {zs : List CueV} {cs : List Value} (hBH : B0 ≤ H) (hHg : H ≤ gx) (hgH : g < H) (hgw : gx < w4.heap.size) (hu : ∀ q, u.ownBlock = some q → gx < q) (hgr : w4.grownBy w5 u.ownBlock)
    (hX : XC w4 H gx cs) (hoc : OwCue w4 H gx vo zs) (hc : Cur w4 B0 g) (hB : Below B0 w w4) : XC w5 H gx cs ∧ OwCue w5 H gx vo zs ∧ Cur w5 B0 g ∧ Below B0 w w5 ∧ gx < w5.heap.size := by
  have hdx : Dis (xV gx) u := dis_lt (C := gx + 1) (fun q hq => by simp [xV, Value.ownBlock] at hq; omega) (fun q hq => hu q hq)
  have hdc : Dis (curV g) u := dis_lt (C := gx) (fun q hq => by simp [curV, Value.ownBlock] at hq; omega) (fun q hq => by have := hu q hq; omega)
  exact ⟨World.ownsRow.kept hX hgr hdx, hoc.kept hgr (fun q hq => .inr (by have := hu q hq; omega)), hc.kept hgr (fun q hq => by have := hu q hq; omega) hdc, hB.grown hgr (by omega) (fun q hq => by have := hu q hq; omega), Nat.lt_of_lt_of_le hgw hgr.size⟩
theorem after_store {B0 H gx g : Nat} {w w5 : World} {vo : Value} {zs : List CueV} {cs : List Value} (c : Nat) (x : Value) (hBH : B0 ≤ H) (hHg : H ≤ gx) (hgH : g < H) (hgw : gx < w5.heap.size)
    (hX : XC w5 H gx cs) (hoc : OwCue w5 H gx vo zs) (hc : Cur w5 B0 g) (hB : Below B0 w w5) :
    XC (w5.setCell ⟨gx, c, none⟩ x) H gx (cs.set c x) ∧ OwCue (w5.setCell ⟨gx, c, none⟩ x) H gx vo zs ∧ Cur (w5.setCell ⟨gx, c, none⟩ x) B0 g ∧ Below B0 w (w5.setCell ⟨gx, c, none⟩ x) ∧ gx < (w5.setCell ⟨gx, c, none⟩ x).heap.size ∧
      ∀ (u : Value) (l : List Int), OwI w5 (gx + 1) u l → OwI (w5.setCell ⟨gx, c, none⟩ x) (gx + 1) u l := by
  have st := World.ownsRow.stored hX c x
  have hdc : Dis (curV g) (xV gx) := dis_ne fun q hq => by simp [curV, Value.ownBlock] at hq; omega
  refine ⟨st.1, hoc.kept (x := xV gx) st.2 (fun q hq => .inr (by simp [xV, Value.ownBlock] at hq; omega)), hc.kept (u := xV gx) st.2 (fun q hq => by simp [xV, Value.ownBlock] at hq; omega) hdc, hB.setCell (by simp; omega) _, Nat.lt_of_lt_of_le hgw st.2.size, fun u l o => ?_⟩
  exact o.kept (u := xV gx) st.2 (dis_ne fun q hq => by have := (o.lt q hq).1; omega)
set_option maxHeartbeats 3200000 in
theorem l11List_any (B g : Nat) (w : World) (h : Cur w B g) :
    Calls Tryd.prog 53 #[.pointer (some ⟨g, 0, none⟩)] w fun e w' => ∃ u, e = .returned u ∧ ∃ zs, RdCue w' u zs ∧ Drawn zs ∧ 1 ≤ zs.length ∧ Below B w w' := by
  obtain ⟨hBg, hgw⟩ := h.lt'
  have hBw : B ≤ w.heap.size := by omega
  have hc := h.below (below_alloc1 w (.cells #[] 31))
  have hB := (below_alloc1 w (.cells #[] 31)).mono hBw
  have HE := Lib.hid (OwCue.empty w)
  have hcg : ∀ k, (curV g).ownBlock = some k → k < w.heap.size := fun k hk => by simp [curV, Value.ownBlock] at hk; omega
  go_enter Tryd.func53, Tryd.ntmps53
  go_wp2_with (fail)
  refine (l01Below_any B g 7 (by omega) _ hc).mono ?_
  rintro e w1 ⟨m, rfl, m0, m1, _, hc1, hg⟩
  replace hB := below_cur hB hg hBg (by simp; omega)
  replace HE := Lib.hid (HE.out.kept hg fun k hk => .inl (hcg k hk))
  have hs1 : w.heap.size + 1 ≤ w1.heap.size := by have := hg.size; simpa using this
  clear hg hc
  replace m1 := m1 (by omega)
  obtain ⟨n, hn⟩ : ∃ n : Nat, 1 + m = (n : Int) := ⟨(1 + m).toNat, by omega⟩
  have hn1 : 1 ≤ n := by omega
  have hn7 : n ≤ 7 := by omega
  go_wp2_with (fail)
  clear hn
  go_loopw [3, 5] (fun u i wr => ∃ (k : Nat) (zs : List CueV), k ≤ n ∧ i = .int .i64 k ∧ zs.length = k ∧ w.heap.size ≤ wr.heap.size ∧ OwCue wr w.heap.size wr.heap.size u zs ∧ Cur wr B g ∧ Below B w wr ∧ Hid (Drawn zs)) (fun _ i _ => n - (intOf i).toNat)
  case atStart => exact ⟨0, [], by omega, rfl, rfl, by omega, HE.out.up hs1, hc1, hB, ⟨by simp, fun k z hz => by simp at hz⟩⟩
  case round =>
   as_aux_lemma =>
    clear HE hB hc1 hs1 h
    obtain ⟨k, zs, hk, rfl, hzl, hsz, ho, hc, hB, HD⟩ := hrel
    obtain ⟨wo, rfl⟩ : ∃ wo : World, wo = wr := ⟨_, rfl⟩
    obtain ⟨ao, co, rfl, _⟩ := ho.rd.shape
    by_cases hlt : k < n
    · go_wp2_with (fail)
      refine (l01Below_any B g 9 (by omega) _ hc).mono ?_
      rintro e w2 ⟨x, rfl, x0, x1, _, hc2, hg⟩
      replace hB := below_cur hB hg hBg (by omega)
      replace ho := (ho.kept hg fun q hq => .inl (hcg q hq)).up hg.size
      replace hsz : w.heap.size ≤ w2.heap.size := Nat.le_trans hsz hg.size
      clear hg hc
      replace x1 := x1 (by omega)
      obtain ⟨t, ht⟩ : ∃ t, 1 + x = t := ⟨_, rfl⟩
      have ht9 : 1 ≤ t ∧ t ≤ 9 := by omega
      have hbx := below_alloc1 w2 (.cells #[.int .i64 t, .slice none 0 0, .slice none 0 0] 31)
      have hX0 : XC (w2.alloc (.cells #[.int .i64 t, .slice none 0 0, .slice none 0 0] 31)) w.heap.size w2.heap.size [.int .i64 t, .slice none 0 0, .slice none 0 0] :=
        World.ownsRow_lit w2 #[.int .i64 t, .slice none 0 0, .slice none 0 0] 1 hsz (by rw [maxLen_eq]; omega) rfl
      obtain ⟨gx, hgx⟩ : ∃ gx, w2.heap.size = gx := ⟨_, rfl⟩
      have hoX := ho.below hbx
      have hcX := hc2.below hbx
      have hBX := hB.trans (hbx.mono (by omega))
      have hszX : gx < (w2.alloc (.cells #[.int .i64 t, .slice none 0 0, .slice none 0 0] 31)).heap.size := by simp; omega
      rw [hgx] at hX0 hoX
      rw [hgx] at hsz
      have HS := Lib.hid (And.intro hX0 (And.intro hoX (And.intro hcX (And.intro hBX hszX))))
      clear hX0 hoX hcX hBX hszX hbx ho hc2 hB
      go_wp2_with (fail)
      try simp only [hgx]
      generalize w2.alloc (.cells #[.int .i64 t, .slice none 0 0, .slice none 0 0] 31) = wx at HS ⊢
      clear hgx ht x0 x1
      have hcx : ∀ q, (curV g).ownBlock = some q → q < gx := fun q hq => by have := hcg q hq; omega
      have hdcx : Dis (curV g) (xV gx) := dis_ne fun q hq => by have := hcx q hq; omega
      go_loopw [7] (fun i wr => ∃ (j : Nat) (u1 : Value) (A : List Int), j ≤ k ∧ i = .int .i64 j ∧ XC wr w.heap.size gx [.int .i64 t, u1, .slice none 0 0] ∧ OwI wr (gx + 1) u1 A ∧ OwCue wr w.heap.size gx (.slice ao zs.length co) zs ∧ Cur wr B g ∧ Below B w wr ∧ gx < wr.heap.size ∧ Hid (Ups A j)) (fun i _ => k - (intOf i).toNat)
      case atStart => exact ⟨0, .slice none 0 0, [], by omega, rfl, HS.out.1, OwI.nil _ _, HS.out.2.1, HS.out.2.2.1, HS.out.2.2.2.1, HS.out.2.2.2.2, Ups.nil⟩
      case round =>
       as_aux_lemma =>
        clear HS
        obtain ⟨j, u1, A, hj, rfl, hX, o1, hoc, hc, hB, hgs, HA⟩ := hrel
        by_cases hjk : j < k
        · have hjk2 : (j : Int) < (k : Int) := by omega
          go_wp2_with (fail)
          refine (l01Once_any B g 4 (by omega) _ hc).mono ?_
          rintro e w4 ⟨b, rfl, hc4, hg⟩
          replace hB := below_cur hB hg hBg (by omega)
          replace hX : XC w4 w.heap.size gx _ := World.ownsRow.kept hX hg (show Dis (xV gx) (curV g) from hdcx.symm)
          replace o1 := o1.kept hg (dis_lt (C := gx) (fun q hq => hcx q hq) (fun q hq => by have := (o1.lt q hq).1; omega)).symm
          replace hoc := hoc.kept hg fun q hq => .inl (hcg q hq)
          replace hgs := Nat.lt_of_lt_of_le hgs hg.size
          clear hg hc
          cases b with
          | true =>
            obtain ⟨a1, c1, rfl⟩ := o1.rd.shape
            have k1 := World.ownsRow.cellAt hX 1 (by omega)
            have f1 := World.ownsRow.frozenAt hX 1
            simp only [List.getElem?_cons_succ, List.getElem?_cons_zero] at k1
            have hAl : A.length ≤ 7 := by have := HA.out.2.2; omega
            have hxne : ∀ q, (Value.slice a1 A.length c1).ownBlock = some q → gx < q := fun q hq => by have := (o1.lt q hq).1; omega
            have HA2 := Lib.hid HA.out.push
            go_wp2_with (at_builtin; refine wpList_pushI rfl (.tmp 30) (.tmp 32) rfl _ _ (gx + 1) _ _ rfl o1 rfl (by omega) (by omega) ?_; intro v5 w5 o5 hgr hfr; obtain ⟨x5, y5, rfl⟩ := o5.rd.shape; obtain ⟨hX5, hoc5, hc5, hB5, hgs5⟩ := after_push hBw hsz hgw hgs hxne hgr hX hoc hc4 hB; have k5 := World.ownsRow.cellAt hX5 1 (by omega); have f5 := World.ownsRow.frozenAt hX5 1; simp only [List.getElem?_cons_succ, List.getElem?_cons_zero] at k5; have HS6 := Lib.hid (after_store 1 (.slice x5 (A ++ [(j : Int)]).length y5) hBw hsz hgw hgs5 hX5 hoc5 hc5 hB5); have HO5 := Lib.hid o5; clear hgr hfr hX5 hoc5 hc5 hB5 o5)
            obtain ⟨hX6, hoc6, hc6, hB6, hgs6, hown⟩ := HS6.out
            have HO := HO5.out
            have hlen : (A ++ [(j : Int)]).length = A.length + 1 := by simp
            simp only [hlen, List.set_cons_succ, List.set_cons_zero] at hX6 hoc6 hc6 hB6 hgs6 hown HO
            exact ⟨⟨j + 1, _, A ++ [(j : Int)], by omega, by go_num, hX6, hown _ _ HO, hoc6, hc6, hB6, hgs6, HA2.out⟩, by simp [intOf]; omega⟩
          | false =>
            have HA2 := Lib.hid HA.out.skip
            go_wp2_with (fail)
            exact ⟨⟨j + 1, u1, A, by omega, by go_num, hX, o1, hoc, hc4, hB, hgs, HA2.out⟩, by simp [intOf]; omega⟩
        · obtain rfl : j = k := by omega
          obtain ⟨a1, c1, rfl⟩ := o1.rd.shape
          have HAk := HA
          go_wp2_with (fail)
          go_loopw [8] (fun i wr => ∃ (j : Nat) (u2 : Value) (P : List Int), j ≤ 5 ∧ i = .int .i64 j ∧ XC wr w.heap.size gx [.int .i64 t, .slice a1 A.length c1, u2] ∧ OwI wr (gx + 1) (.slice a1 A.length c1) A ∧ OwI wr (gx + 1) u2 P ∧ Dis (.slice a1 A.length c1) u2 ∧ OwCue wr w.heap.size gx (.slice ao zs.length co) zs ∧ Cur wr B g ∧ Below B w wr ∧ gx < wr.heap.size ∧ Hid (Ups P j)) (fun i _ => 5 - (intOf i).toNat)
          case atStart => exact ⟨0, .slice none 0 0, [], by omega, rfl, hX, o1, OwI.nil _ _, dis_nil _, hoc, hc, hB, hgs, Ups.nil⟩
          case round =>
           as_aux_lemma =>
            clear hX o1 hoc hc hB hgs
            obtain ⟨i, u2, P, hi, rfl, hX, o1, o2, hd12, hoc, hc, hB, hgs, HP⟩ := hrel
            by_cases hi5 : i < 5
            · have hi52 : (i : Int) < 5 := by omega
              go_wp2_with (fail)
              refine (l01Once_any B g 3 (by omega) _ hc).mono ?_
              rintro e w4 ⟨b, rfl, hc4, hg⟩
              replace hB := below_cur hB hg hBg (by omega)
              replace hX : XC w4 w.heap.size gx _ := World.ownsRow.kept hX hg (show Dis (xV gx) (curV g) from hdcx.symm)
              replace o1 := o1.kept hg (dis_lt (C := gx) (fun q hq => hcx q hq) (fun q hq => by have := (o1.lt q hq).1; omega)).symm
              replace o2 := o2.kept hg (dis_lt (C := gx) (fun q hq => hcx q hq) (fun q hq => by have := (o2.lt q hq).1; omega)).symm
              replace hoc := hoc.kept hg fun q hq => .inl (hcg q hq)
              replace hgs := Nat.lt_of_lt_of_le hgs hg.size
              clear hg hc
              cases b with
              | true =>
                obtain ⟨a2, c2, rfl⟩ := o2.rd.shape
                have k1 := World.ownsRow.cellAt hX 2 (by omega)
                have f1 := World.ownsRow.frozenAt hX 2
                simp only [List.getElem?_cons_succ, List.getElem?_cons_zero] at k1
                have hPl : P.length ≤ 5 := by have := HP.out.2.2; omega
                have hxne : ∀ q, (Value.slice a2 P.length c2).ownBlock = some q → gx < q := fun q hq => by have := (o2.lt q hq).1; omega
                have HP2 := Lib.hid HP.out.push
                go_wp2_with (at_builtin; refine wpList_pushI rfl (.tmp 42) (.tmp 44) rfl _ _ (gx + 1) _ _ rfl o2 rfl (by omega) (by omega) ?_; intro v5 w5 o5 hgr hfr; obtain ⟨x5, y5, rfl⟩ := o5.rd.shape; obtain ⟨hX5, hoc5, hc5, hB5, hgs5⟩ := after_push hBw hsz hgw hgs hxne hgr hX hoc hc4 hB; have k5 := World.ownsRow.cellAt hX5 2 (by omega); have f5 := World.ownsRow.frozenAt hX5 2; simp only [List.getElem?_cons_succ, List.getElem?_cons_zero] at k5; have HS6 := Lib.hid (after_store 2 (.slice x5 (P ++ [(i : Int)]).length y5) hBw hsz hgw hgs5 hX5 hoc5 hc5 hB5); have HO5 := Lib.hid o5; have o1k := o1.kept hgr hd12; have hd5 := dis_grow o1 hd12 hfr; clear o1; clear hgr hfr hX5 hoc5 hc5 hB5 o5)
                obtain ⟨hX6, hoc6, hc6, hB6, hgs6, hown⟩ := HS6.out
                have HO := HO5.out
                have hlen : (P ++ [(i : Int)]).length = P.length + 1 := by simp
                simp only [hlen, List.set_cons_succ, List.set_cons_zero] at hX6 hoc6 hc6 hB6 hgs6 hown HO
                have ho1 := hown _ _ o1k
                simp only [hlen] at hd5
                exact ⟨⟨i + 1, _, P ++ [(i : Int)], by omega, by go_num, hX6, ho1, hown _ _ HO, hd5, hoc6, hc6, hB6, hgs6, HP2.out⟩, by simp [intOf]; omega⟩
              | false =>
                have HP2 := Lib.hid HP.out.skip
                go_wp2_with (fail)
                exact ⟨⟨i + 1, u2, P, by omega, by go_num, hX, o1, o2, hd12, hoc, hc4, hB, hgs, HP2.out⟩, by simp [intOf]; omega⟩
            · obtain rfl : i = 5 := by omega
              obtain ⟨a2, c2, rfl⟩ := o2.rd.shape
              have k0 := World.ownsRow.cellAt hX 0 (by omega)
              have k1 := World.ownsRow.cellAt hX 1 (by omega)
              have k2 := World.ownsRow.cellAt hX 2 (by omega)
              simp only [List.getElem?_cons_succ, List.getElem?_cons_zero] at k0 k1 k2
              rw [hzl] at hoc
              have hvlt := hoc.1
              have hvge := hoc.lt
              have hda : ∀ {u : Value} {l : List Int}, OwI wr (gx + 1) u l → Dis u (.slice ao j co) := fun o => (dis_lt (C := gx) (fun q hq => hvlt q hq) (fun q hq => by have := (o.lt q hq).1; omega)).symm
              have HDN := Lib.hid (drawn_snoc HD.out hzl (by omega) ht9 HA.out HP.out)
              have hzl2 : (zs ++ [(t, A, P)]).length = j + 1 := by simp [hzl]
              go_wp2_with (at_builtin; refine wpList_pushC rfl (.tmp 47) (.tmp 49) rfl _ (t, A, P) _ _ w.heap.size gx _ zs rfl hoc rfl (o1.base (by omega)) (hda o1) (o2.base (by omega)) (hda o2) (by omega) (by omega) (by omega) ?_; intro v6 w6 o6 hgr; have hc6 := hc.kept hgr (fun q hq => by have := hvge q hq; omega) (dis_lt (C := w.heap.size) (fun q hq => hcg q hq) (fun q hq => hvge q hq)); have hB6 := hB.grown hgr (by omega) (fun q hq => by have := hvge q hq; omega); have hs6 := Nat.le_trans (show w.heap.size ≤ wr.heap.size by omega) hgr.size; clear hgr)
              exact ⟨⟨j + 1, zs ++ [(t, A, P)], by omega, by go_num, hzl2, hs6, o6, hc6, hB6, HDN.out⟩, by simp [intOf]; omega⟩
    · have hD := HD.out
      go_wp2_with (fail)
      go_ret
      exact ⟨_, rfl, zs, ho.rd, HD.out, by omega, hB⟩
theorem drawCues_any (n : Nat) (v : Value) (w : World) (h : RdB w w.heap.size v n) :
    Calls Tryd.prog 29 #[v] w fun e w' => ∃ u, e = .returned u ∧ ∃ zs, RdCue w' u zs ∧ Drawn zs ∧ 1 ≤ zs.length ∧ Below w.heap.size w w' := by
  go_enter Tryd.func29, Tryd.ntmps29
  go_wp2_with (fail)
  refine (l01New_any n v w h).mono ?_
  rintro e w1 ⟨g, rfl, hc, hb⟩
  go_wp2_with (fail)
  refine (l11List_any _ g w1 hc).mono ?_
  rintro e w2 ⟨u, rfl, zs, hr, hD, hl, hb2⟩
  go_wp2_with (fail)
  go_ret
  exact ⟨u, rfl, zs, hr, hD, hl, hb.trans hb2⟩
end Go.Proofs.YtkkcglncjdoacaaDoor
