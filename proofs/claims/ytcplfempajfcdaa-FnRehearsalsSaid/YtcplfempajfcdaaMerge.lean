/- The walks of MergedNotes: notes of one cue and one player become one. -/
import Derived.Test.YtcplfempajfcdaaWts
namespace Go.Proofs.Ytcplfempajfcdaa
open Go.ChangeShapes Go.WideShapes Go.ChangeAt Go.RowKit Go.Joins
set_option linter.unusedSimpArgs false
set_option linter.unusedVariables false

abbrev Nt := Int × Int × Int
def keyB (y x : Nt) : Bool := y.1 == x.1 && y.2.1 == x.2.1
def upd (x y : Nt) : Nt := if keyB y x = true then (y.1, y.2.1, min (y.2.2 + x.2.2) 9) else y
def stepM (C : List Nt) (x : Nt) : List Nt := if C.any (fun y => keyB y x) = true then C.map (upd x) else C ++ [x]
def mergeF (zs : List Nt) : List Nt := zs.foldl stepM []
def mergeR (zs : List Nt) : List Nt := if notesB zs = true then mergeF zs else []
theorem mergeF_snoc (A : List Nt) (x : Nt) : mergeF (A ++ [x]) = stepM (mergeF A) x := by simp [mergeF, List.foldl_append]
theorem stepM_yes {C : List Nt} {x : Nt} (h : C.any (fun y => keyB y x) = true) : stepM C x = C.map (upd x) := if_pos h
theorem stepM_no {C : List Nt} {x : Nt} (h : C.any (fun y => keyB y x) = false) : stepM C x = C ++ [x] := if_neg (by simp [h])
theorem stepM_length (C : List Nt) (x : Nt) : (stepM C x).length ≤ C.length + 1 := by
  unfold stepM
  split <;> simp
theorem mergeF_length (A : List Nt) : (mergeF A).length ≤ A.length := by
  have : ∀ (A C : List Nt), (A.foldl stepM C).length ≤ C.length + A.length := by
    intro A
    induction A with
    | nil => intro C; simp
    | cons x r ih =>
      intro C
      have h1 := ih (stepM C x)
      have h2 := stepM_length C x
      rw [List.foldl_cons, List.length_cons]
      omega
  have h := this A []
  simpa [mergeF] using h
theorem mergeR_length (zs : List Nt) : (mergeR zs).length ≤ zs.length := by
  unfold mergeR
  split
  · exact mergeF_length zs
  · simp
theorem keyB_no0 {y0 y1 y2 x0 x1 x2 : Int} (h : y0 ≠ x0) : keyB (y0, y1, y2) (x0, x1, x2) = false := by simp [keyB, h]
theorem keyB_no1 {y0 y1 y2 x0 x1 x2 : Int} (h : y1 ≠ x1) : keyB (y0, y1, y2) (x0, x1, x2) = false := by simp [keyB, h]
theorem keyB_yes {y0 y1 y2 x0 x1 x2 : Int} (h0 : y0 = x0) (h1 : y1 = x1) : keyB (y0, y1, y2) (x0, x1, x2) = true := by simp [keyB, h0, h1]
theorem upd_no {x y : Nt} (h : keyB y x = false) : upd x y = y := if_neg (by simp [h])
theorem upd_yes {x y : Nt} (h : keyB y x = true) : upd x y = (y.1, y.2.1, min (y.2.2 + x.2.2) 9) := if_pos h
theorem key_upd (x y : Nt) : (upd x y).1 = y.1 ∧ (upd x y).2.1 = y.2.1 := by unfold upd; split <;> exact ⟨rfl, rfl⟩
/-- What a merged list is: every weight from 1 to 9, no key twice. -/
def Mgd (C : List Nt) : Prop := (∀ y ∈ C, noteB y = true) ∧ C.Pairwise (fun a b => keyB a b = false)
theorem keyB_upd (x a b : Nt) : keyB (upd x a) (upd x b) = keyB a b := by
  have h1 := key_upd x a
  have h2 := key_upd x b
  simp [keyB, h1.1, h1.2, h2.1, h2.2]
theorem noteB_upd {x y : Nt} (hx : noteB x = true) (hy : noteB y = true) : noteB (upd x y) = true := by
  unfold upd
  split
  · have h1 := noteB_bd hx
    have h2 := noteB_bd hy
    simp only [noteB, Bool.and_eq_true, inB_true]
    refine ⟨⟨h2.1, h2.2.1⟩, ?_⟩
    omega
  · exact hy
theorem mgd_step {C : List Nt} {x : Nt} (h : Mgd C) (hx : noteB x = true) : Mgd (stepM C x) := by
  unfold stepM
  split
  · refine ⟨fun y hy => ?_, ?_⟩
    · obtain ⟨z, hz, rfl⟩ := List.mem_map.1 hy
      exact noteB_upd hx (h.1 z hz)
    · refine List.pairwise_map.2 (h.2.imp fun {a b} hab => ?_)
      rw [keyB_upd]
      exact hab
  · rename_i hn
    have hn' : ∀ y ∈ C, keyB y x = false := fun y hy => by
      have := List.any_eq_false.1 (show C.any (fun y => keyB y x) = false by simpa using hn) y hy
      simpa using this
    refine ⟨fun y hy => ?_, ?_⟩
    · rcases List.mem_append.1 hy with hy | hy
      · exact h.1 y hy
      · simp at hy; subst hy; exact hx
    · refine List.pairwise_append.2 ⟨h.2, List.pairwise_singleton _ _, fun a ha b hb => ?_⟩
      simp at hb; subst hb
      exact hn' a ha
theorem mgd_merge {zs : List Nt} (h : ∀ x ∈ zs, noteB x = true) : Mgd (mergeF zs) := by
  have : ∀ (A C : List Nt), (∀ x ∈ A, noteB x = true) → Mgd C → Mgd (A.foldl stepM C) := by
    intro A
    induction A with
    | nil => intro C _ h; exact h
    | cons x r ih =>
      intro C hA hC
      exact ih _ (fun y hy => hA y (List.mem_cons_of_mem _ hy)) (mgd_step hC (hA x (by simp)))
  exact this zs [] h ⟨by simp, List.Pairwise.nil⟩
/-- One element of the row that is being merged. -/
theorem mid_at {C : List Nt} {x : Nt} {j : Nat} {y : Nt} (h : C[j]? = some y) : ((C.take j).map (upd x) ++ C.drop j).getD j (0, 0, 0) = y := by
  have hj := (List.getElem?_eq_some_iff.1 h).1
  have hl : ((C.take j).map (upd x)).length = j := by rw [List.length_map, List.length_take]; omega
  rw [List.getD_eq_getElem?_getD, List.getElem?_append_right (by omega), hl, Nat.sub_self, drop_get? h]
  rfl
theorem mid_set {C : List Nt} {x : Nt} {j : Nat} {y z : Nt} (h : C[j]? = some y) (hz : upd x y = z) : ((C.take j).map (upd x) ++ C.drop j).set j z = (C.take (j + 1)).map (upd x) ++ C.drop (j + 1) := by
  have hj := (List.getElem?_eq_some_iff.1 h).1
  have hl : ((C.take j).map (upd x)).length = j := by rw [List.length_map, List.length_take]; omega
  rw [List.set_append_right _ _ (by omega), hl, Nat.sub_self, drop_get? h, List.set_cons_zero, take_get? h]
  simp [hz]
theorem mid_keep {C : List Nt} {x : Nt} {j : Nat} {y : Nt} (h : C[j]? = some y) (hz : upd x y = y) : (C.take j).map (upd x) ++ C.drop j = (C.take (j + 1)).map (upd x) ++ C.drop (j + 1) := by
  rw [drop_get? h, take_get? h]
  simp [hz]
theorem any_snoc {C : List Nt} {x : Nt} {j : Nat} {y : Nt} (h : C[j]? = some y) : (C.take (j + 1)).any (fun y => keyB y x) = ((C.take j).any (fun y => keyB y x) || keyB y x) := by
  rw [take_get? h]; simp
/-- The last index below j of x's key; -1 if there is none. -/
def lastF (C : List Nt) (x : Nt) : Nat → Int
  | 0 => -1
  | j + 1 => if keyB (C.getD j (0, 0, 0)) x = true then j else lastF C x j
theorem lastF_yes {C : List Nt} {x y : Nt} {j : Nat} (h : C[j]? = some y) (hk : keyB y x = true) : lastF C x (j + 1) = j := by
  rw [lastF, List.getD_eq_getElem?_getD, h]; simp [hk]
theorem lastF_no {C : List Nt} {x y : Nt} {j : Nat} (h : C[j]? = some y) (hk : keyB y x = false) : lastF C x (j + 1) = lastF C x j := by
  rw [lastF, List.getD_eq_getElem?_getD, h]; simp [hk]
theorem lastF_spec {C : List Nt} {x : Nt} : ∀ j, j ≤ C.length → (lastF C x j = -1 ∧ (C.take j).any (fun y => keyB y x) = false) ∨ ∃ (i : Nat) (y : Nt), lastF C x j = i ∧ C[i]? = some y ∧ keyB y x = true ∧ i < C.length := by
  intro j
  induction j with
  | zero => intro _; exact .inl ⟨rfl, by simp⟩
  | succ j ih =>
    intro hj
    have hg : C[j]? = some C[j] := List.getElem?_eq_getElem (by omega)
    cases hk : keyB C[j] x with
    | true => exact .inr ⟨j, _, lastF_yes hg hk, hg, hk, by omega⟩
    | false =>
      rw [lastF_no hg hk, any_snoc hg, hk, Bool.or_false]
      exact ih (by omega)
theorem upd_other {C : List Nt} {x : Nt} {i : Nat} {y : Nt} (h : C.Pairwise (fun a b => keyB a b = false)) (hi : C[i]? = some y) (hk : keyB y x = true) : C.map (upd x) = C.set i (upd x y) := by
  have hil := (List.getElem?_eq_some_iff.1 hi).1
  have hiy := (List.getElem?_eq_some_iff.1 hi).2
  refine List.ext_getElem (by simp) fun j h1 h2 => ?_
  rw [List.getElem_map, List.getElem_set]
  have hjl : j < C.length := by simpa using h1
  by_cases hij : i = j
  · subst hij
    rw [if_pos rfl, hiy]
  · rw [if_neg hij]
    refine upd_no ?_
    have hcomm : ∀ a b : Nt, keyB a b = keyB b a := fun a b => by simp only [keyB]; rw [Bool.beq_comm (a := a.1), Bool.beq_comm (a := a.2.1)]
    have hne : keyB C[j] y = false := by
      rcases Nat.lt_or_ge j i with hlt | hge
      · have := List.pairwise_iff_getElem.1 h j i hjl hil hlt
        rw [hiy] at this
        exact this
      · have := List.pairwise_iff_getElem.1 h i j hil hjl (by omega)
        rw [hiy, hcomm] at this
        exact this
    simp only [keyB, Bool.and_eq_true, beq_iff_eq] at hk
    simp only [keyB] at hne ⊢
    rw [← hk.1, ← hk.2]
    exact hne
theorem below_drewN' {B : Nat} {a w : World} (h : Below B a w) (n : Nat) : Below B a (w.drewN n) := ⟨h.os, h.tape, h.output, h.size, h.block⟩
theorem notesB_all {zs : List Nt} (h : notesB zs = true) : ∀ x ∈ zs, noteB x = true := by
  simp only [notesB, Bool.and_eq_true] at h
  exact fun x hx => List.all_eq_true.1 h.1 x hx
set_option maxHeartbeats 1600000 in
theorem implMergedNotes_any (zs : List Nt) (v : Value) (w : World) (h : RdNote w v zs) :
    Calls Try.prog 22 #[v] w fun e w' => ∃ u, e = .returned u ∧ OwNote w' w.heap.size u (mergeR zs) ∧ Below w.heap.size w w' := by
  have HR := Lib.hid h
  obtain ⟨ad, cap, bl, off, rfl, hcap, hmax, had, hc⟩ := h.open
  have HC := Lib.hid hc
  clear h hc
  by_cases hok : notesB zs = true
  · rw [show mergeR zs = mergeF zs from if_pos hok]
    have hl40 := (notesB_bd hok).1
    have HM := Lib.hid (notesB_all hok)
    go_enter Try.func22, Try.ntmps22
    go_wp2_with (fail)
    refine (implNotesOk_any zs _ _ HR.out).mono ?_
    rintro e w1 ⟨rfl, hb⟩
    have hB1 := hb.alloc hb.size (.cells #[] 42)
    have HE := Lib.hid (OwNote.empty w1 w.heap.size hb.size)
    go_wp2_with (fail)
    go_loopw [3, 14] (fun u i wr => ∃ (k : Nat) (C : List Nt), k ≤ zs.length ∧ i = .int .i64 k ∧ OwNote wr w.heap.size u C ∧ C.length ≤ k ∧ Below w.heap.size w wr ∧ Hid (C = mergeF (zs.take k))) (fun _ i _ => zs.length - (intOf i).toNat)
    case atStart => exact ⟨0, [], Nat.zero_le _, rfl, HE.out, Nat.le_refl _, hB1, rfl⟩
    case round =>
     as_aux_lemma =>
      clear HE hB1 hb
      obtain ⟨k, C, hk, rfl, ho, hC, hB, HA⟩ := hrel
      by_cases hlt : k < zs.length
      · obtain rfl := had (by omega)
        obtain ⟨⟨x0, x1, x2⟩, hx⟩ : ∃ x, zs[k]? = some x := ⟨_, List.getElem?_eq_getElem hlt⟩
        have hsrc : wr.cell? ⟨bl, off + k * 3, none⟩ = some (.int .i64 x0) ∧ wr.cell? ⟨bl, off + k * 3 + 1, none⟩ = some (.int .i64 x1) ∧ wr.cell? ⟨bl, off + k * 3 + 2, none⟩ = some (.int .i64 x2) := by
          have h1 := HC.out k hlt
          rw [List.getD_eq_getElem?_getD, hx] at h1
          exact ⟨cell_on hB h1.1, cell_on hB h1.2.1, cell_on hB h1.2.2⟩
        obtain ⟨hck0, hck1, hck2⟩ := hsrc
        have HT := Lib.hid (take_get? hx)
        have hN := HM.out _ (List.mem_of_getElem? hx)
        obtain ⟨_, _, n2, n3⟩ := noteB_bd hN
        simp only [] at n2 n3
        have HM2 : Hid (Mgd C) := by show Mgd C; rw [HA.out]; exact mgd_merge fun y hy => HM.out y (List.mem_of_mem_take hy)
        have HNB := Lib.hid hN
        clear hx hN
        have hB2 := hB.alloc hB.size (.cells #[.int .i64 x0, .int .i64 x1, .int .i64 x2] 42)
        have ho2 := ho.alloc (.cells #[.int .i64 x0, .int .i64 x1, .int .i64 x2] 42)
        obtain ⟨A, ca, rfl, hcc, hmm, hadC⟩ := ho.form
        obtain ⟨wo, HWO⟩ : ∃ wo : World, Hid (wo = wr) := ⟨wr, rfl⟩
        have hs0 : wo.heap.size = wr.heap.size := by rw [HWO.out]
        go_wp2_with (fail)
        obtain ⟨W, hW⟩ : ∃ W, W = wr.alloc (.cells #[.int .i64 x0, .int .i64 x1, .int .i64 x2] 42) := ⟨_, rfl⟩
        have k0 : W.cell? ⟨wr.heap.size, 0, none⟩ = some (.int .i64 x0) := by rw [hW]; simp [go_sem]
        have k1 : W.cell? ⟨wr.heap.size, 1, none⟩ = some (.int .i64 x1) := by rw [hW]; simp [go_sem]
        have k2 : W.cell? ⟨wr.heap.size, 2, none⟩ = some (.int .i64 x2) := by rw [hW]; simp [go_sem]
        have hWs : W.heap.size = wr.heap.size + 1 := by rw [hW]; simp
        rw [← hW] at hB2 ho2 ⊢
        clear hW hck0 hck1 hck2
        have hBs := hB.size
        generalize wr.heap.size = nb at k0 k1 k2 hadC hs0 hWs hBs ⊢
        have HK := Lib.hid (And.intro k0 (And.intro k1 k2))
        have HO2 := Lib.hid (And.intro ho2 hB2)
        clear k0 k1 k2 ho2 hB2 ho hB HWO hs0
        go_loopw [6, 20] (fun d i wr => ∃ j : Nat, j ≤ C.length ∧ i = .int .i64 j ∧ d = .bool ((C.take j).any (fun y => keyB y (x0, x1, x2))) ∧ Hid (OwNote wr w.heap.size (.slice A C.length ca) ((C.take j).map (upd (x0, x1, x2)) ++ C.drop j)) ∧ Below w.heap.size w wr ∧ wr.cell? ⟨nb, 0, none⟩ = some (.int .i64 x0) ∧ wr.cell? ⟨nb, 1, none⟩ = some (.int .i64 x1) ∧ wr.cell? ⟨nb, 2, none⟩ = some (.int .i64 x2)) (fun _ i _ => C.length - (intOf i).toNat)
        case atStart => exact ⟨0, Nat.zero_le _, rfl, by simp, HO2.out.1, HO2.out.2, HK.out.1, HK.out.2.1, HK.out.2.2⟩
        case round =>
         as_aux_lemma =>
          clear HK HO2 hWs
          obtain ⟨j, hj, rfl, rfl, HW, hB, k0, k1, k2⟩ := hrel
          by_cases hjm : j < C.length
          · obtain ⟨g, rfl, hg, hgw⟩ := hadC (by omega)
            obtain ⟨⟨y0, y1, y2⟩, hy⟩ : ∃ y, C[j]? = some y := ⟨_, List.getElem?_eq_getElem hjm⟩
            have hYB := HM2.out.1 _ (List.mem_of_getElem? hy)
            obtain ⟨_, _, m2, m3⟩ := noteB_bd hYB
            simp only [] at m2 m3
            have hjl : j < ((C.take j).map (upd (x0, x1, x2)) ++ C.drop j).length := by rw [List.length_append, List.length_map, List.length_take, List.length_drop]; omega
            obtain ⟨hd0, hd1, hd2, hfz⟩ := HW.out.cell hjl
            rw [mid_at hy] at hd0 hd1 hd2
            dsimp only at hd0 hd1 hd2
            have hf2 := hfz (j * 3 + 2)
            have q1 : (j : Int) < (C.length : Int) := by omega
            have HAN := Lib.hid (any_snoc (x := (x0, x1, x2)) hy)
            by_cases e0 : y0 = x0
            · by_cases e1 : y1 = x1
              · have hkey := keyB_yes (y2 := y2) (x2 := x2) e0 e1
                have hu := upd_yes hkey
                have hp := fun m : Nat => (HW.out.drewN m).set2 hjl (min (y2 + x2) 9)
                rw [mid_at hy, mid_set hy hu] at hp
                have hne : (some nb : Option Nat) ≠ some g := by simp; omega
                have HD : Hid (Value.bool true = .bool ((C.take (j + 1)).any (fun y => keyB y (x0, x1, x2)))) := by show _ = _; rw [HAN.out, hkey, Bool.or_true]
                have HKK : Hid (∀ m : Nat, OwNote ((wr.drewN m).setCell ⟨g, j * 3 + 2, none⟩ (.int .i64 (min (y2 + x2) 9))) w.heap.size (.slice (some ⟨g, 0, none⟩) C.length ca) ((C.take (j + 1)).map (upd (x0, x1, x2)) ++ C.drop (j + 1)) ∧ Below w.heap.size w ((wr.drewN m).setCell ⟨g, j * 3 + 2, none⟩ (.int .i64 (min (y2 + x2) 9))) ∧ ((wr.drewN m).setCell ⟨g, j * 3 + 2, none⟩ (.int .i64 (min (y2 + x2) 9))).cell? ⟨nb, 0, none⟩ = some (.int .i64 x0) ∧ ((wr.drewN m).setCell ⟨g, j * 3 + 2, none⟩ (.int .i64 (min (y2 + x2) 9))).cell? ⟨nb, 1, none⟩ = some (.int .i64 x1) ∧ ((wr.drewN m).setCell ⟨g, j * 3 + 2, none⟩ (.int .i64 (min (y2 + x2) 9))).cell? ⟨nb, 2, none⟩ = some (.int .i64 x2)) := fun m =>
                  ⟨(hp m).1, (HW.out.drewN m).grown_below (below_drewN' hB m) (Nat.le_refl _) (hp m).2, (hp m).2.cell k0 hne, (hp m).2.cell k1 hne, (hp m).2.cell k2 hne⟩
                clear hp hu hkey hy hfz hjl hYB HW HAN hne
                subst e0
                subst e1
                go_wp2
                go_quiet (fail)
                go_wp2
                go_region
                rw [ite_min]
                go_wp2
                exact ⟨⟨j + 1, by omega, by go_num, HD.out, HKK.out _⟩, by simp [intOf]; omega⟩
              · have hkey := keyB_no1 (y0 := y0) (y2 := y2) (x0 := x0) (x2 := x2) e1
                have e1b : (y1 == x1) = false := beq_eq_false_iff_ne.2 e1
                have HW2 : Hid (OwNote wr w.heap.size (.slice (some ⟨g, 0, none⟩) C.length ca) ((C.take (j + 1)).map (upd (x0, x1, x2)) ++ C.drop (j + 1))) := by rw [← mid_keep hy (upd_no hkey)]; exact HW.out
                have HD : Hid (Value.bool ((C.take j).any (fun y => keyB y (x0, x1, x2))) = .bool ((C.take (j + 1)).any (fun y => keyB y (x0, x1, x2)))) := by show _ = _; rw [HAN.out, hkey, Bool.or_false]
                clear hkey hy hfz hjl hYB HW HAN
                subst e0
                go_wp2
                go_quiet (fail)
                go_wp2
                exact ⟨⟨j + 1, by omega, by go_num, HD.out, HW2.out.drewN _, below_drewN' hB _, k0, k1, k2⟩, by simp [intOf]; omega⟩
            · have hkey := keyB_no0 (y1 := y1) (y2 := y2) (x1 := x1) (x2 := x2) e0
              have e0b : (y0 == x0) = false := beq_eq_false_iff_ne.2 e0
              have HW2 : Hid (OwNote wr w.heap.size (.slice (some ⟨g, 0, none⟩) C.length ca) ((C.take (j + 1)).map (upd (x0, x1, x2)) ++ C.drop (j + 1))) := by rw [← mid_keep hy (upd_no hkey)]; exact HW.out
              have HD : Hid (Value.bool ((C.take j).any (fun y => keyB y (x0, x1, x2))) = .bool ((C.take (j + 1)).any (fun y => keyB y (x0, x1, x2)))) := by show _ = _; rw [HAN.out, hkey, Bool.or_false]
              clear hkey hy hfz hjl hYB HW HAN
              go_wp2
              go_quiet (fail)
              go_wp2
              exact ⟨⟨j + 1, by omega, by go_num, HD.out, HW2.out.drewN _, below_drewN' hB _, k0, k1, k2⟩, by simp [intOf]; omega⟩
          · obtain rfl : j = C.length := by omega
            have HW2 := HW.out
            rw [List.take_length, List.drop_length, List.append_nil] at HW2
            rw [List.take_length]
            clear HW
            cases hany : C.any (fun y => keyB y (x0, x1, x2)) with
            | true =>
              have HN : Hid (C.map (upd (x0, x1, x2)) = mergeF (zs.take (k + 1))) := by show _ = _; rw [HT.out, mergeF_snoc, ← HA.out, stepM_yes hany]
              clear hany
              go_wp2_with (fail)
              exact ⟨⟨k + 1, C.map (upd (x0, x1, x2)), by omega, by go_num, HW2, by simp; omega, hB, HN⟩, by simp [intOf]; omega⟩
            | false =>
              have HN : Hid (C ++ [(x0, x1, x2)] = mergeF (zs.take (k + 1))) := by show _ = _; rw [HT.out, mergeF_snoc, ← HA.out, stepM_no hany]
              have hid : C.map (upd (x0, x1, x2)) = C := by
                refine (List.map_congr_left fun y hy => ?_).trans (List.map_id' C)
                exact upd_no (by have := List.any_eq_false.1 hany y hy; simpa using this)
              rw [hid] at HW2
              clear hany hid
              have hB3 := hB.alloc hB.size (.cells #[.int .i64 x0, .int .i64 x1, .int .i64 x2] 42)
              go_wp2_with (at_builtin; refine wpList_appNote rfl (.tmp 57) (.tmp 59) rfl _ w.heap.size _ C rfl (HW2.alloc _) _ [(x0, x1, x2)] rfl (rdNote_one _ _ _ _) (by simp; omega) hB3.size ?_; intro v1 w2 o1 hgr _; replace hB := (HW2.alloc _).grown_below hB3 (Nat.le_refl _) hgr; clear hgr hB3 HW2)
              exact ⟨⟨k + 1, C ++ [(x0, x1, x2)], by omega, by go_num, o1, by simp; omega, hB, HN⟩, by simp [intOf]; omega⟩
      · go_wp2
        go_ret
        obtain rfl : k = zs.length := by omega
        have e : C = mergeF zs := by rw [HA.out, List.take_length]
        exact ⟨_, rfl, by rw [← e]; exact ho, hB⟩
  · have hok' : notesB zs = false := by simpa using hok
    rw [show mergeR zs = [] from if_neg hok]
    clear hok
    go_enter Try.func22, Try.ntmps22
    go_wp2_with (fail)
    refine (implNotesOk_any zs _ _ HR.out).mono ?_
    rintro e w1 ⟨rfl, hb⟩
    go_wp2_with (fail)
    go_ret
    exact ⟨_, rfl, OwNote.nil _ _, hb⟩
set_option maxHeartbeats 1600000 in
theorem specMergedNotes_any (zs : List Nt) (v : Value) (w : World) (h : RdNote w v zs) :
    Calls Try.prog 21 #[v] w fun e w' => ∃ u, e = .returned u ∧ OwNote w' w.heap.size u (mergeR zs) ∧ Below w.heap.size w w' := by
  have HR := Lib.hid h
  obtain ⟨ad, cap, bl, off, rfl, hcap, hmax, had, hc⟩ := h.open
  have HC := Lib.hid hc
  clear h hc
  have hB0 := below_alloc1 w (.cells #[] 42)
  have HE := Lib.hid (OwNote.empty w w.heap.size (Nat.le_refl _))
  go_enter Try.func21, Try.ntmps21
  go_wp2_with (fail)
  go_loopw [3, 4] (fun u i wr => ∃ (k : Nat) (C : List Nt), k ≤ zs.length ∧ (k = 0 ∨ notesB zs = true) ∧ i = .int .i64 k ∧ OwNote wr w.heap.size u C ∧ C.length ≤ k ∧ Below w.heap.size w wr ∧ Hid (C = mergeF (zs.take k))) (fun _ i _ => zs.length - (intOf i).toNat)
  case atStart => exact ⟨0, [], Nat.zero_le _, .inl rfl, rfl, HE.out, Nat.le_refl _, hB0, rfl⟩
  case round =>
   as_aux_lemma =>
    clear HE hB0
    obtain ⟨k, C, hk, hok0, rfl, ho, hC, hB, HA⟩ := hrel
    by_cases hlt : k < zs.length
    · obtain rfl := had (by omega)
      by_cases hok : notesB zs = true
      · have hl40 := (notesB_bd hok).1
        have HM := Lib.hid (notesB_all hok)
        clear hok0
        go_wp2_with (fail)
        refine (specNotesOk_any zs _ _ (HR.out.below hB)).mono ?_
        rintro e w1 ⟨rfl, hd⟩
        replace ho := ho.below hd
        replace hB := bvia hB hd
        clear hd
        obtain ⟨wr, rfl⟩ : ∃ wr : World, wr = w1 := ⟨_, rfl⟩
        obtain ⟨⟨x0, x1, x2⟩, hx⟩ : ∃ x, zs[k]? = some x := ⟨_, List.getElem?_eq_getElem hlt⟩
        have hsrc : wr.cell? ⟨bl, off + k * 3, none⟩ = some (.int .i64 x0) ∧ wr.cell? ⟨bl, off + k * 3 + 1, none⟩ = some (.int .i64 x1) ∧ wr.cell? ⟨bl, off + k * 3 + 2, none⟩ = some (.int .i64 x2) := by
          have h1 := HC.out k hlt
          rw [List.getD_eq_getElem?_getD, hx] at h1
          exact ⟨cell_on hB h1.1, cell_on hB h1.2.1, cell_on hB h1.2.2⟩
        obtain ⟨hck0, hck1, hck2⟩ := hsrc
        have HT := Lib.hid (take_get? hx)
        have hN := HM.out _ (List.mem_of_getElem? hx)
        obtain ⟨_, _, n2, n3⟩ := noteB_bd hN
        simp only [] at n2 n3
        have HM2 : Hid (Mgd C) := by show Mgd C; rw [HA.out]; exact mgd_merge fun y hy => HM.out y (List.mem_of_mem_take hy)
        have HNB := Lib.hid hN
        clear hx hN
        obtain ⟨A, ca, rfl, hcc, hmm, hadC⟩ := ho.form
        have HO := Lib.hid ho
        have HBB := Lib.hid hB
        have HK := Lib.hid (And.intro hck0 (And.intro hck1 hck2))
        clear ho hB hck0 hck1 hck2
        go_wp2_with (fail)
        obtain ⟨wo, rfl⟩ : ∃ wo : World, wo = wr := ⟨_, rfl⟩
        have q1 : (k : Int) < (zs.length : Int) := by omega
        go_loopw [5, 6] (fun a i wr => ∃ j : Nat, j ≤ C.length ∧ i = .int .i64 j ∧ a = .int .i64 (lastF C (x0, x1, x2) j) ∧ Dr wo wr) (fun _ i _ => C.length - (intOf i).toNat)
        case atStart => exact ⟨0, Nat.zero_le _, rfl, rfl, Dr.refl _⟩
        case round =>
         as_aux_lemma =>
          obtain ⟨j, hj, rfl, rfl, hD⟩ := hrel
          have hck0 := hD.cell HK.out.1
          have hck1 := hD.cell HK.out.2.1
          have hck2 := hD.cell HK.out.2.2
          by_cases hjm : j < C.length
          · obtain ⟨g, rfl, hg, hgw⟩ := hadC (by omega)
            obtain ⟨⟨y0, y1, y2⟩, hy⟩ : ∃ y, C[j]? = some y := ⟨_, List.getElem?_eq_getElem hjm⟩
            have hYB := HM2.out.1 _ (List.mem_of_getElem? hy)
            obtain ⟨_, _, m2, m3⟩ := noteB_bd hYB
            simp only [] at m2 m3
            have hgd : C.getD j (0, 0, 0) = (y0, y1, y2) := by rw [List.getD_eq_getElem?_getD, hy]; rfl
            obtain ⟨hd0, hd1, hd2, hfz⟩ := HO.out.cell hjm
            rw [hgd] at hd0 hd1 hd2
            dsimp only at hd0 hd1 hd2
            replace hd0 := hD.cell hd0
            replace hd1 := hD.cell hd1
            have q2 : (j : Int) < (C.length : Int) := by omega
            by_cases e0 : y0 = x0
            · by_cases e1 : y1 = x1
              · have hkey := keyB_yes (y2 := y2) (x2 := x2) e0 e1
                have HD : Hid (Value.int .i64 j = .int .i64 (lastF C (x0, x1, x2) (j + 1))) := by show _ = _; rw [lastF_yes hy hkey]
                clear hkey hy hfz hYB hgd
                subst e0
                subst e1
                go_wp2
                go_quiet (fail)
                go_wp2
                exact ⟨⟨j + 1, by omega, by go_num, HD.out, hD.next _⟩, by simp [intOf]; omega⟩
              · have hkey := keyB_no1 (y0 := y0) (y2 := y2) (x0 := x0) (x2 := x2) e1
                have e1b : (y1 == x1) = false := beq_eq_false_iff_ne.2 e1
                have HD : Hid (Value.int .i64 (lastF C (x0, x1, x2) j) = .int .i64 (lastF C (x0, x1, x2) (j + 1))) := by show _ = _; rw [lastF_no hy hkey]
                clear hkey hy hfz hYB hgd
                subst e0
                go_wp2
                go_quiet (fail)
                go_wp2
                exact ⟨⟨j + 1, by omega, by go_num, HD.out, hD.next _⟩, by simp [intOf]; omega⟩
            · have hkey := keyB_no0 (y1 := y1) (y2 := y2) (x1 := x1) (x2 := x2) e0
              have e0b : (y0 == x0) = false := beq_eq_false_iff_ne.2 e0
              have HD : Hid (Value.int .i64 (lastF C (x0, x1, x2) j) = .int .i64 (lastF C (x0, x1, x2) (j + 1))) := by show _ = _; rw [lastF_no hy hkey]
              clear hkey hy hfz hYB hgd
              go_wp2
              go_quiet (fail)
              go_wp2
              exact ⟨⟨j + 1, by omega, by go_num, HD.out, hD.next _⟩, by simp [intOf]; omega⟩
          · obtain rfl : j = C.length := by omega
            have hB := bvia HBB.out hD.below
            have ho := HO.out.below hD.below
            rcases lastF_spec (x := (x0, x1, x2)) C.length (Nat.le_refl _) with ⟨hl, hany⟩ | ⟨i, ⟨y0, y1, y2⟩, hl, hi, hkey, hil⟩
            · rw [List.take_length] at hany
              have HN : Hid (C ++ [(x0, x1, x2)] = mergeF (zs.take (k + 1))) := by show _ = _; rw [HT.out, mergeF_snoc, ← HA.out, stepM_no hany]
              have hB3 := hB.alloc hB.size (.cells #[.int .i64 x0, .int .i64 x1, .int .i64 x2] 42)
              rw [hl]
              clear hl hany HO HBB
              go_wp2_with (at_builtin; refine wpList_appNote rfl (.tmp 51) (.tmp 56) rfl _ w.heap.size _ C rfl (ho.alloc _) _ [(x0, x1, x2)] rfl (rdNote_one _ _ _ _) (by simp; omega) hB3.size ?_; intro v1 w2 o1 hgr _; replace hB := (ho.alloc _).grown_below hB3 (Nat.le_refl _) hgr; clear hgr hB3 ho)
              exact ⟨⟨k + 1, C ++ [(x0, x1, x2)], by omega, .inr hok, by go_num, o1, by simp; omega, hB, HN⟩, by simp [intOf]; omega⟩
            · obtain ⟨g, rfl, hg, hgw⟩ := hadC (by omega)
              have hgd : C.getD i (0, 0, 0) = (y0, y1, y2) := by rw [List.getD_eq_getElem?_getD, hi]; rfl
              have hYB := HM2.out.1 _ (List.mem_of_getElem? hi)
              obtain ⟨_, _, m2, m3⟩ := noteB_bd hYB
              simp only [] at m2 m3
              obtain ⟨hd0, hd1, hd2, hfz⟩ := ho.cell hil
              rw [hgd] at hd0 hd1 hd2
              dsimp only at hd0 hd1 hd2
              have hf2 := hfz (i * 3 + 2)
              have hany : C.any (fun y => keyB y (x0, x1, x2)) = true := List.any_eq_true.2 ⟨_, List.mem_of_getElem? hi, hkey⟩
              have HN : Hid (C.set i (y0, y1, min (y2 + x2) 9) = mergeF (zs.take (k + 1))) := by show _ = _; rw [HT.out, mergeF_snoc, ← HA.out, stepM_yes hany, upd_other HM2.out.2 hi hkey, upd_yes hkey]
              have hp := ho.set2 hil (min (y2 + x2) 9)
              rw [hgd] at hp
              have HKK := Lib.hid (And.intro hp.1 (ho.grown_below hB (Nat.le_refl _) hp.2))
              have hls : (C.set i (y0, y1, min (y2 + x2) 9)).length = C.length := by simp
              have HLS := Lib.hid hls
              rw [hl]
              clear hl hany HO HBB hp hfz hgd hYB hi hkey ho hB hls
              have q2 : (i : Int) < (C.length : Int) := by omega
              go_wp2
              go_region
              rw [ite_min, Int.min_comm 9 (y2 + x2)]
              go_wp2
              exact ⟨⟨k + 1, C.set i (y0, y1, min (y2 + x2) 9), by omega, .inr hok, by go_num, HKK.out.1.drew, by rw [HLS.out]; omega, HKK.out.2.drew, HN⟩, by simp [intOf]; omega⟩
      · obtain rfl : k = 0 := by rcases hok0 with h | h; exact h; exact absurd h hok
        have hok' : notesB zs = false := by simpa using hok
        have he : C = mergeR zs := by rw [HA.out, mergeR, if_neg hok]; rfl
        have HK := Lib.hid he
        clear hok0 he hok
        go_wp2_with (fail)
        refine (specNotesOk_any zs _ _ (HR.out.below hB)).mono ?_
        rintro e w1 ⟨rfl, hd⟩
        replace ho := ho.below hd
        replace hB := bvia hB hd
        clear hd
        go_wp2_with (fail)
        go_ret
        exact ⟨_, rfl, by rw [← HK.out]; exact ho, hB⟩
    · obtain rfl : k = zs.length := by omega
      have he : C = mergeR zs := by
        rw [HA.out, List.take_length, mergeR]
        split
        · rfl
        · rename_i h
          rcases hok0 with h1 | h1
          · rw [List.eq_nil_of_length_eq_zero h1]; rfl
          · exact absurd h1 h
      have HK := Lib.hid he
      clear he hok0
      go_wp2
      go_ret
      exact ⟨_, rfl, by rw [← HK.out]; exact ho, hB⟩
theorem walkFnExactMergedNotes (zs : List (Int × Int × Int)) (vzs : Value) (w : World) (hzs : RdNote w vzs zs) : Calls Try.prog 7 #[vzs] w fun e w' => e = .returned (.bool true) ∧ Below w.heap.size w w' := by
  have hmxzs : zs.length ≤ 9223372036854775807 := by obtain ⟨_, _, _, _, _, h1, h2, _⟩ := hzs.open; omega
  obtain ⟨azs, capzs, rfl⟩ := hzs.shape
  by_cases hlzs : zs.length ≤ 1048576
  · skip
    have hB := Below.refl w.heap.size w
    have hyl : (mergeR zs).length ≤ 1048576 := Nat.le_trans (mergeR_length zs) (by omega)
    go_enter Try.func7, Try.ntmps7
    go_wp2_with (fail)
    refine (szNoteS_ok _ _ _ _ (by omega) (by omega) _).mono ?_
    rintro e w' ⟨rfl, rfl⟩
    go_wp2_with (fail)
    refine (toNoteS_any zs (by omega) _ _ (hzs.below hB)).mono ?_
    rintro e w1 ⟨ut0, rfl, ot0, hb⟩
    have bt0 := hB.size
    replace hB := bvia hB hb
    clear hb
    go_wp2_with (fail)
    refine (specMergedNotes_any zs  _ _ ot0.rd).mono ?_
    rintro e w2 ⟨uw, rfl, ow, hb⟩
    have dt0_w := dis_of ot0.lt ow.lt (Nat.le_refl _)
    have dw_t0 := dis_of' ot0.lt ow.lt (Nat.le_refl _)
    have bw := hB.size
    replace ot0 := ot0.below hb
    replace hB := bvia hB hb
    clear hb
    clear ot0
    go_wp2_with (fail)
    refine (toNoteS_any zs (by omega) _ _ (hzs.below hB)).mono ?_
    rintro e w3 ⟨ux0, rfl, ox0, hb⟩
    have dw_x0 := dis_of ow.lt ox0.lt (Nat.le_refl _)
    have dx0_w := dis_of' ow.lt ox0.lt (Nat.le_refl _)
    have bx0 := hB.size
    replace ow := ow.below hb
    replace hB := bvia hB hb
    clear hb
    go_wp2_with (fail)
    refine (implMergedNotes_any zs  _ _ ox0.rd).mono ?_
    rintro e w4 ⟨ug, rfl, og, hb⟩
    have dw_g := dis_of ow.lt og.lt (Nat.le_refl _)
    have dg_w := dis_of' ow.lt og.lt (Nat.le_refl _)
    have dx0_g := dis_of ox0.lt og.lt (Nat.le_refl _)
    have dg_x0 := dis_of' ox0.lt og.lt (Nat.le_refl _)
    have bg := hB.size
    replace ow := ow.below hb
    replace ox0 := ox0.below hb
    replace hB := bvia hB hb
    clear hb
    go_wp2_with (fail)
    refine (eqNoteS_any (mergeR zs) _ _ _ og.rd ow.rd).mono ?_
    rintro e w5 ⟨rfl, hb⟩
    replace ow := ow.below hb
    replace ox0 := ox0.below hb
    replace og := og.below hb
    replace hB := bvia hB hb
    clear hb
    go_wp2_with (fail)
    refine (toNoteS_any zs (by omega) _ _ (hzs.below hB)).mono ?_
    rintro e w6 ⟨uy0, rfl, oy0, hb⟩
    have dw_y0 := dis_of ow.lt oy0.lt (Nat.le_refl _)
    have dy0_w := dis_of' ow.lt oy0.lt (Nat.le_refl _)
    have dx0_y0 := dis_of ox0.lt oy0.lt (Nat.le_refl _)
    have dy0_x0 := dis_of' ox0.lt oy0.lt (Nat.le_refl _)
    have dg_y0 := dis_of og.lt oy0.lt (Nat.le_refl _)
    have dy0_g := dis_of' og.lt oy0.lt (Nat.le_refl _)
    have by0 := hB.size
    replace ow := ow.below hb
    replace ox0 := ox0.below hb
    replace og := og.below hb
    replace hB := bvia hB hb
    clear hb
    go_wp2_with (fail)
    refine (eqNoteS_any zs _ _ _ ox0.rd oy0.rd).mono ?_
    rintro e w7 ⟨rfl, hb⟩
    replace ow := ow.below hb
    replace ox0 := ox0.below hb
    replace og := og.below hb
    replace oy0 := oy0.below hb
    replace hB := bvia hB hb
    clear hb
    clear oy0
    go_wp2_with (fail)
    refine (markNoteS_any zs _ (by omega) (by omega) _ _ _ ox0).mono ?_
    rintro e w8 ⟨rfl, om, hg⟩
    replace ow := ow.kept hg dw_x0
    replace og := og.kept hg dg_x0
    replace hB := ox0.grown_below hB bx0 hg
    clear hg ox0
    have ox0 := om
    clear om
    go_wp2_with (fail)
    refine (eqNoteS_any (mergeR zs) _ _ _ og.rd ow.rd).mono ?_
    rintro e w9 ⟨rfl, hb⟩
    replace ow := ow.below hb
    replace ox0 := ox0.below hb
    replace og := og.below hb
    replace hB := bvia hB hb
    clear hb
    clear ox0
    go_wp2_with (fail)
    refine (markNoteS_any (mergeR zs) _ (by omega) (by omega) _ _ _ og).mono ?_
    rintro e w10 ⟨rfl, om, hg⟩
    replace ow := ow.kept hg dw_g
    replace hB := og.grown_below hB bg hg
    clear hg og
    have og := om
    clear om
    go_wp2_with (fail)
    refine (heldNoteS_any (mergeR zs).length 1 (by omega) (by omega) _ _ og.rd).mono ?_
    rintro e w11 ⟨rfl, rfl⟩
    go_wp2_with (fail)
    refine (toNoteS_any zs (by omega) _ _ (hzs.below hB)).mono ?_
    rintro e w12 ⟨us0, rfl, os0, hb⟩
    have dw_s0 := dis_of ow.lt os0.lt (Nat.le_refl _)
    have ds0_w := dis_of' ow.lt os0.lt (Nat.le_refl _)
    have dg_s0 := dis_of og.lt os0.lt (Nat.le_refl _)
    have ds0_g := dis_of' og.lt os0.lt (Nat.le_refl _)
    have bs0 := hB.size
    replace ow := ow.below hb
    replace og := og.below hb
    replace hB := bvia hB hb
    clear hb
    go_wp2_with (fail)
    refine (implMergedNotes_any zs  _ _ os0.rd).mono ?_
    rintro e w13 ⟨uh, rfl, oh, hb⟩
    have dw_h := dis_of ow.lt oh.lt (Nat.le_refl _)
    have dh_w := dis_of' ow.lt oh.lt (Nat.le_refl _)
    have dg_h := dis_of og.lt oh.lt (Nat.le_refl _)
    have dh_g := dis_of' og.lt oh.lt (Nat.le_refl _)
    have ds0_h := dis_of os0.lt oh.lt (Nat.le_refl _)
    have dh_s0 := dis_of' os0.lt oh.lt (Nat.le_refl _)
    have bh := hB.size
    replace ow := ow.below hb
    replace og := og.below hb
    replace os0 := os0.below hb
    replace hB := bvia hB hb
    clear hb
    clear os0
    go_wp2_with (fail)
    refine (eqNoteS_any (mergeR zs) _ _ _ oh.rd ow.rd).mono ?_
    rintro e w14 ⟨rfl, hb⟩
    replace ow := ow.below hb
    replace og := og.below hb
    replace oh := oh.below hb
    replace hB := bvia hB hb
    clear hb
    go_wp2_with (fail)
    refine (heldNoteS_any (mergeR zs).length 1 (by omega) (by omega) _ _ og.rd).mono ?_
    rintro e w15 ⟨rfl, rfl⟩
    go_wp2_with (fail)
    go_returns
    exact ⟨rfl, hB⟩
  · go_enter Try.func7, Try.ntmps7
    go_wp2_with (fail)
    refine (szNoteS_no _ _ _ (by have := hmxzs; omega) _ (by omega) (by omega) (by omega) _).mono ?_
    rintro e w' ⟨rfl, rfl⟩
    go_wp2_with (fail)
    go_returns
    exact ⟨rfl, Below.refl _ _⟩
end Go.Proofs.Ytcplfempajfcdaa
