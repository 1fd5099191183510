/- ReadCue: the plain law; the walk of spec.ReadCue. -/
import Derived.Test.YtkkcglncjdoacaaDoorRdN
import Derived.Test.YtkkcglncjdoacaaDoorScene
namespace Go.Proofs.YtkkcglncjdoacaaDoor
open Go.ChangeShapes Go.WideShapes Go.ChangeAt Go.RowKit Go.Joins Go.Deep Go.Sort
set_option linter.unusedSimpArgs false
set_option linter.unusedVariables false
set_option maxRecDepth 20000

theorem strict_len : ∀ (zs : List Int) (x b : Int), strictB (x :: zs) = true → allB (x :: zs) 0 b = true → x + (zs.length : Int) ≤ b
  | [], x, b, _, h => by
    have := allB_mem h x (by simp)
    simp
    omega
  | y :: r, x, b, hs, h => by
    rw [strictB_cons, Bool.and_eq_true] at hs
    rw [allB_cons, Bool.and_eq_true] at h
    have h1 := of_decide_eq_true hs.1
    have h2 := strict_len r y b hs.2 h.2
    simp only [List.length_cons]
    omega
theorem rises_len {zs : List Int} {b : Int} (hb : 0 ≤ b) (h : risesB zs 0 b = true) : (zs.length : Int) ≤ b + 1 := by
  cases zs with
  | nil => simp; omega
  | cons x r =>
    unfold risesB at h
    rw [Bool.and_eq_true] at h
    have h1 := strict_len r x b h.1 h.2
    have h2 := allB_mem h.2 x (by simp)
    simp only [List.length_cons]
    omega
theorem digits_two {n : Nat} (h : n ≤ 99) : (Lib.decDigits n).length ≤ 2 := by
  rw [Lib.decDigits]
  split
  · simp
  · rw [Lib.decDigits]
    rw [dif_pos (by omega)]
    simp
theorem itoa_two {z : Int} (h0 : 0 ≤ z) (h : z ≤ 99) : (Lib.itoa z).length ≤ 2 := by
  obtain ⟨n, rfl⟩ : ∃ n : Nat, z = n := ⟨z.toNat, by omega⟩
  have : Lib.itoa (n : Int) = Lib.decDigits n := by unfold Lib.itoa; rw [if_neg (by omega)]; simp
  rw [this]
  exact digits_two (by omega)
theorem lens_two : ∀ (zs : List Int), (∀ z ∈ zs, 0 ≤ z ∧ z ≤ 99) → Lib.lens (zs.map Lib.itoa) ≤ 2 * zs.length
  | [], _ => by simp [Lib.lens]
  | z :: r, h => by
    have h1 := itoa_two (h z (by simp)).1 (h z (by simp)).2
    have h2 := lens_two r fun y hy => h y (by simp [hy])
    simp only [List.map_cons, Lib.lens, List.sum_cons, List.length_cons] at h2 ⊢
    omega
theorem nums_two {zs : List Int} (h : ∀ z ∈ zs, 0 ≤ z ∧ z ≤ 99) : (numsL zs).length ≤ 3 * zs.length := by
  unfold numsL
  split
  · cases zs with
    | nil => simp [Lib.join_nil]
    | cons z r =>
      have h1 := lens_two (z :: r) h
      rw [List.map_cons, Lib.join_length]
      simp only [List.length_cons, List.length_nil, List.length_map, List.map_cons] at h1 ⊢
      omega
  · simp
theorem cueL_len (t : Int) (a p : List Int) : (cueL t a p).length ≤ 61 := by
  unfold cueL
  split
  · rename_i h
    unfold cueOk at h
    rw [Bool.and_eq_true, Bool.and_eq_true] at h
    have h1 := inB_true.1 h.1.1
    have ha := h.1.2
    have hp := h.2
    have la := rises_len (by omega) ha
    have lp := rises_len (by omega) hp
    unfold risesB at ha hp
    rw [Bool.and_eq_true] at ha hp
    have na := nums_two (zs := a) fun z hz => by have := allB_mem ha.2 z hz; omega
    have np := nums_two (zs := p) fun z hz => by have := allB_mem hp.2 z hz; omega
    have nt := itoa_two (z := t) (by omega) (by omega)
    simp only [List.length_append, List.length_cons, List.length_nil]
    omega
  · simp
/-- ReadCue: the cue whose own text the text is. -/
def rcF (l : List UInt8) : Option CueV := match splitP 47 l with
  | [a, b, c] => if ((puF a).isSome && rdB b && rdB c) = true ∧ cueL ((puF a).getD 0 : Nat) (rdV b) (rdV c) = l then some ((((puF a).getD 0 : Nat) : Int), rdV b, rdV c) else none
  | _ => none
def rcV (l : List UInt8) : CueV := (rcF l).getD (0, [], [])
def rcB (l : List UInt8) : Bool := (rcF l).isSome
theorem rc_none {l : List UInt8} (h : rcF l = none) : rcV l = (0, [], []) ∧ rcB l = false := by unfold rcV rcB; rw [h]; exact ⟨rfl, rfl⟩
theorem rc_some {l : List UInt8} {z : CueV} (h : rcF l = some z) : rcV l = z ∧ rcB l = true := by unfold rcV rcB; rw [h]; exact ⟨rfl, rfl⟩
theorem rcF_three {l : List UInt8} (h : (splitP 47 l).length ≠ 3) : rcF l = none := by
  unfold rcF
  split
  · rename_i a b c he
    rw [he] at h
    exact absurd rfl h
  · rfl
theorem rcF_of {l a b c : List UInt8} (hs : splitP 47 l = [a, b, c]) (h1 : (puF a).isSome = true) (h2 : rdB b = true) (h3 : rdB c = true) (h4 : cueL ((puF a).getD 0 : Nat) (rdV b) (rdV c) = l) :
    rcF l = some ((((puF a).getD 0 : Nat) : Int), rdV b, rdV c) := by
  unfold rcF
  rw [hs]
  exact if_pos ⟨by rw [h1, h2, h3]; rfl, h4⟩
theorem rcF_no {l a b c : List UInt8} (hs : splitP 47 l = [a, b, c]) (h : ((puF a).isSome = true → rdB b = true → rdB c = true → cueL ((puF a).getD 0 : Nat) (rdV b) (rdV c) ≠ l)) : rcF l = none := by
  unfold rcF
  rw [hs]
  refine if_neg ?_
  rintro ⟨h1, h2⟩
  rw [Bool.and_eq_true, Bool.and_eq_true] at h1
  exact h h1.1.1 h1.1.2 h1.2 h2
theorem rcF_long {l : List UInt8} (h : 100 < l.length) : rcF l = none := by
  unfold rcF
  split
  · refine if_neg ?_
    rintro ⟨_, h2⟩
    rw [← h2] at h
    exact absurd h (Nat.not_lt.2 (Nat.le_trans (cueL_len _ _ _) (by decide)))
  · rfl
theorem puV_form (l : List UInt8) : puV l = .tuple #[.int .i64 (((puF l).getD 0 : Nat) : Int), .bool (puF l).isSome] := by
  unfold puV
  cases puF l <;> rfl
theorem three_of {xs : List ByteArray} (h : xs.length = 3) : ∃ a b c, xs = [a, b, c] := by
  match xs, h with
  | [a, b, c], _ => exact ⟨a, b, c, rfl⟩
theorem piece_sz {s : ByteArray} {c : UInt8} {xs : List ByteArray} {k : Nat} {x : ByteArray} (h : xs.map (·.data.toList) = splitP c s.data.toList) (hx : xs[k]? = some x) : x.size ≤ s.size := by
  have h1 := congrArg List.length (join_split c s.data.toList)
  rw [← h] at h1
  have hm : x.data.toList ∈ xs.map (·.data.toList) := List.mem_map_of_mem (List.mem_of_getElem? hx)
  have h2 := lens_mem hm
  rw [Lib.size_eq, Lib.size_eq]
  cases hxs : xs with
  | nil => rw [hxs] at hx; simp at hx
  | cons y t =>
    rw [hxs, List.map_cons, Lib.join_length] at h1
    rw [hxs, List.map_cons] at h2
    omega
theorem ret_cue {t t' : Int} {a b : Bool} {u1 u2 : Value} (ht : t' = t) (h : a = b) : Ending.returned (.tuple #[.agg #[.int .i64 t, u1, u2], .bool a]) = .returned (.tuple #[.agg #[.int .i64 t', u1, u2], .bool b]) := by rw [h, ht]
theorem dis_ne0 {u : Value} {g : Nat} (h : ∀ q, u.ownBlock = some q → q ≠ g) : Dis u (.slice (some ⟨g, 0, none⟩) 1 1) := by
  rcases hk : u.ownBlock with _ | k
  · exact .inl hk
  · refine .inr fun e => ?_
    rw [hk] at e
    simp only [Value.ownBlock, Option.map_some, Option.some.injEq] at e
    exact h k hk e
set_option maxHeartbeats 1000000 in
theorem specReadCue_any (s : ByteArray) (hs : s.size ≤ 1048576) (w : World) (ht : Pow10 w) :
    Calls Tryd.prog 33 #[.string s] w fun e w' => ∃ u1 u2, e = .returned (.tuple #[.agg #[.int .i64 (rcV s.data.toList).1, u1, u2], .bool (rcB s.data.toList)]) ∧ OwI w' w.heap.size u1 (rcV s.data.toList).2.1 ∧ OwI w' w.heap.size u2 (rcV s.data.toList).2.2 ∧ Dis u1 u2 ∧ Below w.heap.size w w' := by
  have hsz : s.data.toList.length = s.size := (Lib.size_eq s).symm
  have HT := Lib.hid ht
  clear ht
  have hsp := Lib.hid (fun w' => l28Split_any s 47 (by omega) w')
  rw [show ((47 : UInt8).toNat : Int) = 47 from rfl] at hsp
  have hB := below_alloc1 w (.cells #[.int .i64 0, .slice none 0 0, .slice none 0 0] 31)
  have hNZ : splitP 47 s.data.toList ≠ [] := splitP_ne _ _
  go_enter Tryd.func33, Tryd.ntmps33
  go_wp2_with (fail)
  refine (hsp.out _).mono ?_
  rintro e w2 ⟨up, xs, rfl, op, hxs, hb⟩
  have o1 : (w.alloc (.cells #[.int .i64 0, .slice none 0 0, .slice none 0 0] 31)).ownsRow w.heap.size 31 3 (.slice (some ⟨w.heap.size, 0, none⟩) 1 1) 1 [.int .i64 0, .slice none 0 0, .slice none 0 0] := World.ownsRow_lit (base := w.heap.size) (e := 31) (size := 3) w #[.int .i64 0, .slice none 0 0, .slice none 0 0] 1 (by simp) (by rw [maxLen_eq]; omega) rfl
  have hs1 : (w.alloc (.cells #[.int .i64 0, .slice none 0 0, .slice none 0 0] 31)).heap.size = w.heap.size + 1 := by simp
  replace op := op.base (show w.heap.size + 1 ≤ _ by rw [hs1]; exact Nat.le_refl _)
  replace o1 := own_below o1 hb
  replace hB := bvia hB hb
  clear hb hs1 hsp
  by_cases h3 : xs.length = 3
  · obtain ⟨x0, x1, x2, rfl⟩ := three_of h3
    obtain ⟨gp, cp, rfl, hgp, hcp, hmp, hcell⟩ := op.full (by simp)
    have c0 := hcell 0 x0 rfl
    have c1 := hcell 1 x1 rfl
    have c2 := hcell 2 x2 rfl
    have z0 := piece_sz hxs (k := 0) (x := x0) rfl
    have z1 := piece_sz hxs (k := 1) (x := x1) rfl
    have z2 := piece_sz hxs (k := 2) (x := x2) rfl
    simp only [List.map_cons, List.map_nil] at hxs
    clear hcell h3 op
    simp only [List.length_cons, List.length_nil, Nat.zero_add, Nat.reduceAdd] at hcp ⊢
    by_cases hl : s.size ≤ 100
    · have ql : ¬ (100 : Int) < (s.size : Int) := by omega
      have HP := Lib.hid (fun w' => specParseUint_any x0 (by omega) w')
      rw [puV_form] at HP
      generalize hto : (((puF x0.data.toList).getD 0 : Nat) : Int) = t at HP
      generalize hb0 : (puF x0.data.toList).isSome = b0 at HP
      have HA := Lib.hid (fun w' => specReadNumbers_any x1 (by omega) w')
      have HN := Lib.hid (fun w' => specReadNumbers_any x2 (by omega) w')
      generalize hva : rdV x1.data.toList = va at HA
      generalize hba : rdB x1.data.toList = ba at HA
      generalize hvp : rdV x2.data.toList = vp at HN
      generalize hbp : rdB x2.data.toList = bp at HN
      go_wp2_with (fail)
      refine (HP.out _).mono ?_
      rintro e w3 ⟨rfl, hb⟩
      replace c1 := cell_on hb c1
      replace c2 := cell_on hb c2
      replace o1 := own_below o1 hb
      replace hB := bvia hB hb
      clear hb c0 hgp
      go_wp2_with (fail)
      refine (HA.out _).mono ?_
      rintro e w4 ⟨u1, rfl, ou1, hb⟩
      have hw3 := hB.size
      have hw3' : w.heap.size < w3.heap.size := (World.ownsRow.lt o1 _ rfl).2
      replace c2 := cell_on hb c2
      replace o1 := own_below o1 hb
      replace hB := bvia hB hb
      clear hb c1
      go_wp2_with (fail)
      refine (HN.out _).mono ?_
      rintro e w5 ⟨u2, rfl, ou2, hb⟩
      have hw4 := hB.size
      have hne1 : ∀ q, u1.ownBlock = some q → q ≠ w.heap.size := fun q hq => by have := (ou1.lt q hq).1; omega
      have hne2 : ∀ q, u2.ownBlock = some q → q ≠ w.heap.size := fun q hq => by have := (ou2.lt q hq).1; have : w.heap.size < w4.heap.size := (World.ownsRow.lt o1 _ rfl).2; omega
      have d12 : Dis u1 u2 := dis_lt (C := w4.heap.size) (fun q hq => (ou1.lt q hq).2) (fun q hq => (ou2.lt q hq).1)
      replace ou1 := (ou1.base hw3).below hb
      replace ou2 := ou2.base hw4
      replace o1 := own_below o1 hb
      replace hB := bvia hB hb
      clear hb c2 HP HA HN
      obtain ⟨a1, y1, rfl⟩ := ou1.rd.shape
      obtain ⟨a2, y2, rfl⟩ := ou2.rd.shape
      have hbX := below_alloc1 w5 (.cells #[.int .i64 t, .slice a1 va.length y1, .slice a2 vp.length y2] 31)
      replace ou1 := ou1.below hbX
      replace ou2 := ou2.below hbX
      replace o1 := own_below o1 hbX
      replace hB := bvia hB hbX
      clear hbX
      cases b0 with
      | false =>
        have HR := Lib.hid (rc_none (rcF_no (l := s.data.toList) hxs.symm (by intro h1 h2 h3; exfalso; (first | (rw [hb0] at h1; cases h1; done) | (rw [hba] at h2; cases h2; done) | (rw [hbp] at h3; cases h3; done)))))
        clear hto hb0 hva hba hvp hbp hne1 hne2 d12 ou1 ou2
        have g0 := World.ownsRow.cellAt o1 0 (by omega)
        have g1 := World.ownsRow.cellAt o1 1 (by omega)
        have g2 := World.ownsRow.cellAt o1 2 (by omega)
        have k0 := World.ownsRow.frozenAt o1 0
        have k1 := World.ownsRow.frozenAt o1 1
        have k2 := World.ownsRow.frozenAt o1 2
        simp only [List.getElem?_cons_succ, List.getElem?_cons_zero] at g0 g1 g2
        have s0 := World.ownsRow.stored o1 0 (.int .i64 0)
        have s1 := World.ownsRow.stored s0.1 1 (.slice none 0 0)
        have s2 := World.ownsRow.stored s1.1 2 (.slice none 0 0)
        have m0 := World.ownsRow.cellAt s0.1 0 (by omega)
        have m1 := World.ownsRow.cellAt s1.1 1 (by omega)
        have m2 := World.ownsRow.cellAt s2.1 2 (by omega)
        simp only [List.set_cons_succ, List.set_cons_zero, List.getElem?_cons_succ, List.getElem?_cons_zero] at m0 m1 m2
        have hBF := ((hB.setCell (p := ⟨w.heap.size, 0, none⟩) (by simp) (.int .i64 0)).setCell (p := ⟨w.heap.size, 1, none⟩) (by simp) (.slice none 0 0)).setCell (p := ⟨w.heap.size, 2, none⟩) (by simp) (.slice none 0 0)
        have HF := Lib.hid hBF
        clear s0 s1 s2 hB hxs o1 hBF 
        go_wp2_with (fail)
        (try simp only [Exit.inBlock, Exit.then])
        refine bodyPost_ret (by simp [results, Tryd.results33, go_sem, m0, m1, m2]; try rfl) rfl ?_
        refine ⟨.slice none 0 0, .slice none 0 0, ret_cue (by rw [HR.out.1]) HR.out.2.symm, ?_, ?_, .inl rfl, HF.out⟩
        · rw [HR.out.1]; exact OwI.nil _ _
        · rw [HR.out.1]; exact OwI.nil _ _
      | true =>
        cases ba with
        | false =>
          have HR := Lib.hid (rc_none (rcF_no (l := s.data.toList) hxs.symm (by intro h1 h2 h3; exfalso; (first | (rw [hb0] at h1; cases h1; done) | (rw [hba] at h2; cases h2; done) | (rw [hbp] at h3; cases h3; done)))))
          clear hto hb0 hva hba hvp hbp hne1 hne2 d12 ou1 ou2
          have g0 := World.ownsRow.cellAt o1 0 (by omega)
          have g1 := World.ownsRow.cellAt o1 1 (by omega)
          have g2 := World.ownsRow.cellAt o1 2 (by omega)
          have k0 := World.ownsRow.frozenAt o1 0
          have k1 := World.ownsRow.frozenAt o1 1
          have k2 := World.ownsRow.frozenAt o1 2
          simp only [List.getElem?_cons_succ, List.getElem?_cons_zero] at g0 g1 g2
          have s0 := World.ownsRow.stored o1 0 (.int .i64 0)
          have s1 := World.ownsRow.stored s0.1 1 (.slice none 0 0)
          have s2 := World.ownsRow.stored s1.1 2 (.slice none 0 0)
          have m0 := World.ownsRow.cellAt s0.1 0 (by omega)
          have m1 := World.ownsRow.cellAt s1.1 1 (by omega)
          have m2 := World.ownsRow.cellAt s2.1 2 (by omega)
          simp only [List.set_cons_succ, List.set_cons_zero, List.getElem?_cons_succ, List.getElem?_cons_zero] at m0 m1 m2
          have hBF := ((hB.setCell (p := ⟨w.heap.size, 0, none⟩) (by simp) (.int .i64 0)).setCell (p := ⟨w.heap.size, 1, none⟩) (by simp) (.slice none 0 0)).setCell (p := ⟨w.heap.size, 2, none⟩) (by simp) (.slice none 0 0)
          have HF := Lib.hid hBF
          clear s0 s1 s2 hB hxs o1 hBF 
          go_wp2_with (fail)
          (try simp only [Exit.inBlock, Exit.then])
          refine bodyPost_ret (by simp [results, Tryd.results33, go_sem, m0, m1, m2]; try rfl) rfl ?_
          refine ⟨.slice none 0 0, .slice none 0 0, ret_cue (by rw [HR.out.1]) HR.out.2.symm, ?_, ?_, .inl rfl, HF.out⟩
          · rw [HR.out.1]; exact OwI.nil _ _
          · rw [HR.out.1]; exact OwI.nil _ _
        | true =>
          cases bp with
          | false =>
            have HR := Lib.hid (rc_none (rcF_no (l := s.data.toList) hxs.symm (by intro h1 h2 h3; exfalso; (first | (rw [hb0] at h1; cases h1; done) | (rw [hba] at h2; cases h2; done) | (rw [hbp] at h3; cases h3; done)))))
            clear hto hb0 hva hba hvp hbp hne1 hne2 d12 ou1 ou2
            have g0 := World.ownsRow.cellAt o1 0 (by omega)
            have g1 := World.ownsRow.cellAt o1 1 (by omega)
            have g2 := World.ownsRow.cellAt o1 2 (by omega)
            have k0 := World.ownsRow.frozenAt o1 0
            have k1 := World.ownsRow.frozenAt o1 1
            have k2 := World.ownsRow.frozenAt o1 2
            simp only [List.getElem?_cons_succ, List.getElem?_cons_zero] at g0 g1 g2
            have s0 := World.ownsRow.stored o1 0 (.int .i64 0)
            have s1 := World.ownsRow.stored s0.1 1 (.slice none 0 0)
            have s2 := World.ownsRow.stored s1.1 2 (.slice none 0 0)
            have m0 := World.ownsRow.cellAt s0.1 0 (by omega)
            have m1 := World.ownsRow.cellAt s1.1 1 (by omega)
            have m2 := World.ownsRow.cellAt s2.1 2 (by omega)
            simp only [List.set_cons_succ, List.set_cons_zero, List.getElem?_cons_succ, List.getElem?_cons_zero] at m0 m1 m2
            have hBF := ((hB.setCell (p := ⟨w.heap.size, 0, none⟩) (by simp) (.int .i64 0)).setCell (p := ⟨w.heap.size, 1, none⟩) (by simp) (.slice none 0 0)).setCell (p := ⟨w.heap.size, 2, none⟩) (by simp) (.slice none 0 0)
            have HF := Lib.hid hBF
            clear s0 s1 s2 hB hxs o1 hBF 
            go_wp2_with (fail)
            (try simp only [Exit.inBlock, Exit.then])
            refine bodyPost_ret (by simp [results, Tryd.results33, go_sem, m0, m1, m2]; try rfl) rfl ?_
            refine ⟨.slice none 0 0, .slice none 0 0, ret_cue (by rw [HR.out.1]) HR.out.2.symm, ?_, ?_, .inl rfl, HF.out⟩
            · rw [HR.out.1]; exact OwI.nil _ _
            · rw [HR.out.1]; exact OwI.nil _ _
          | true =>
            have hE0 : (w5.alloc (.cells #[.int .i64 t, .slice a1 va.length y1, .slice a2 vp.length y2] 31)).cell? ⟨w5.heap.size, 0, none⟩ = some (.int .i64 t) := by simp [go_sem]
            have hE1 : (w5.alloc (.cells #[.int .i64 t, .slice a1 va.length y1, .slice a2 vp.length y2] 31)).cell? ⟨w5.heap.size, 1, none⟩ = some (.slice a1 va.length y1) := by simp [go_sem]
            have hE2 : (w5.alloc (.cells #[.int .i64 t, .slice a1 va.length y1, .slice a2 vp.length y2] 31)).cell? ⟨w5.heap.size, 2, none⟩ = some (.slice a2 vp.length y2) := by simp [go_sem]
            have HX := Lib.hid (And.intro hE0 (And.intro hE1 hE2))
            clear hE0 hE1 hE2
            have HC := Lib.hid (fun w' h1 h2 ht => specCueText_any t va vp (.slice a1 va.length y1) (.slice a2 vp.length y2) w' h1 h2 ht)
            obtain ⟨f, hf⟩ : ∃ f : ByteArray, (⟨(cueL t va vp).toArray⟩ : ByteArray) = f := ⟨_, rfl⟩
            rw [hf] at HC
            have hfd : f.data.toList = cueL t va vp := by rw [← hf]
            by_cases hfs : f = s
            · have HR := Lib.hid (rc_some (rcF_of (l := s.data.toList) hxs.symm hb0 hba hbp (by rw [hto, hva, hvp, ← hfd, hfs])))
              rw [hto, hva, hvp] at HR
              have hbq : (f.toList == s.toList) = true := by rw [hfs]; exact beq_self_eq_true _
              clear hto hb0 hva hba hvp hbp hf hfd hfs
              go_wp2_with (fail)
              refine (HC.out _ ou1.rd ou2.rd (tabIs_below HT.out hB)).mono ?_
              rintro e w6 ⟨rfl, hb⟩
              have e0 := cell_on hb HX.out.1
              have e1 := cell_on hb HX.out.2.1
              have e2 := cell_on hb HX.out.2.2
              replace ou1 := ou1.below hb
              replace ou2 := ou2.below hb
              replace o1 := own_below o1 hb
              replace hB := bvia hB hb
              clear hb HC HX
              have g0 := World.ownsRow.cellAt o1 0 (by omega)
              have g1 := World.ownsRow.cellAt o1 1 (by omega)
              have g2 := World.ownsRow.cellAt o1 2 (by omega)
              have k0 := World.ownsRow.frozenAt o1 0
              have k1 := World.ownsRow.frozenAt o1 1
              have k2 := World.ownsRow.frozenAt o1 2
              simp only [List.getElem?_cons_succ, List.getElem?_cons_zero] at g0 g1 g2
              have s0 := World.ownsRow.stored o1 0 (.int .i64 t)
              have s1 := World.ownsRow.stored s0.1 1 (.slice a1 va.length y1)
              have s2 := World.ownsRow.stored s1.1 2 (.slice a2 vp.length y2)
              have m0 := World.ownsRow.cellAt s0.1 0 (by omega)
              have m1 := World.ownsRow.cellAt s1.1 1 (by omega)
              have m2 := World.ownsRow.cellAt s2.1 2 (by omega)
              simp only [List.set_cons_succ, List.set_cons_zero, List.getElem?_cons_succ, List.getElem?_cons_zero] at m0 m1 m2
              have hBF := ((hB.setCell (p := ⟨w.heap.size, 0, none⟩) (by simp) (.int .i64 t)).setCell (p := ⟨w.heap.size, 1, none⟩) (by simp) (.slice a1 va.length y1)).setCell (p := ⟨w.heap.size, 2, none⟩) (by simp) (.slice a2 vp.length y2)
              have hd1 : Dis (.slice a1 va.length y1) (.slice (some ⟨w.heap.size, 0, none⟩) 1 1) := dis_ne0 hne1
              have hd2 : Dis (.slice a2 vp.length y2) (.slice (some ⟨w.heap.size, 0, none⟩) 1 1) := dis_ne0 hne2
              have r1 := ((ou1.kept s0.2 hd1).kept s1.2 hd1).kept s2.2 hd1
              have r2 := ((ou2.kept s0.2 hd2).kept s1.2 hd2).kept s2.2 hd2
              clear hd1 hd2 hne1 hne2
              have HF := Lib.hid (And.intro r1 (And.intro r2 hBF))
              clear s0 s1 s2 hB hxs o1 hBF r1 r2 ou1 ou2 
              go_wp2_with (fail)
              (try simp only [Exit.inBlock, Exit.then])
              refine bodyPost_ret (by simp [results, Tryd.results33, go_sem, m0, m1, m2]; try rfl) rfl ?_
              refine ⟨_, _, ret_cue (by rw [HR.out.1]) HR.out.2.symm, ?_, ?_, d12, HF.out.2.2⟩
              · rw [HR.out.1]; exact HF.out.1
              · rw [HR.out.1]; exact HF.out.2.1
            · have HR := Lib.hid (rc_none (rcF_no (l := s.data.toList) hxs.symm (by intro _ _ _; rw [hto, hva, hvp, ← hfd]; exact fun e => hfs (str_eq e))))
              have hbq : (f.toList == s.toList) = false := beq_eq_false_iff_ne.2 fun e => hfs (toList_inj e)
              clear hto hb0 hva hba hvp hbp hf hfd hfs hne1 hne2
              go_wp2_with (fail)
              refine (HC.out _ ou1.rd ou2.rd (tabIs_below HT.out hB)).mono ?_
              rintro e w6 ⟨rfl, hb⟩
              replace o1 := own_below o1 hb
              replace hB := bvia hB hb
              clear hb HC HX ou1 ou2 d12
              have g0 := World.ownsRow.cellAt o1 0 (by omega)
              have g1 := World.ownsRow.cellAt o1 1 (by omega)
              have g2 := World.ownsRow.cellAt o1 2 (by omega)
              have k0 := World.ownsRow.frozenAt o1 0
              have k1 := World.ownsRow.frozenAt o1 1
              have k2 := World.ownsRow.frozenAt o1 2
              simp only [List.getElem?_cons_succ, List.getElem?_cons_zero] at g0 g1 g2
              have s0 := World.ownsRow.stored o1 0 (.int .i64 0)
              have s1 := World.ownsRow.stored s0.1 1 (.slice none 0 0)
              have s2 := World.ownsRow.stored s1.1 2 (.slice none 0 0)
              have m0 := World.ownsRow.cellAt s0.1 0 (by omega)
              have m1 := World.ownsRow.cellAt s1.1 1 (by omega)
              have m2 := World.ownsRow.cellAt s2.1 2 (by omega)
              simp only [List.set_cons_succ, List.set_cons_zero, List.getElem?_cons_succ, List.getElem?_cons_zero] at m0 m1 m2
              have hBF := ((hB.setCell (p := ⟨w.heap.size, 0, none⟩) (by simp) (.int .i64 0)).setCell (p := ⟨w.heap.size, 1, none⟩) (by simp) (.slice none 0 0)).setCell (p := ⟨w.heap.size, 2, none⟩) (by simp) (.slice none 0 0)
              have HF := Lib.hid hBF
              clear s0 s1 s2 hB hxs o1 hBF 
              go_wp2_with (fail)
              (try simp only [Exit.inBlock, Exit.then])
              refine bodyPost_ret (by simp [results, Tryd.results33, go_sem, m0, m1, m2]; try rfl) rfl ?_
              refine ⟨.slice none 0 0, .slice none 0 0, ret_cue (by rw [HR.out.1]) HR.out.2.symm, ?_, ?_, .inl rfl, HF.out⟩
              · rw [HR.out.1]; exact OwI.nil _ _
              · rw [HR.out.1]; exact OwI.nil _ _
    · have ql : (100 : Int) < (s.size : Int) := by omega
      have HR := Lib.hid (rc_none (rcF_long (l := s.data.toList) (by omega)))
      clear c0 c1 c2
      have g0 := World.ownsRow.cellAt o1 0 (by omega)
      have g1 := World.ownsRow.cellAt o1 1 (by omega)
      have g2 := World.ownsRow.cellAt o1 2 (by omega)
      have k0 := World.ownsRow.frozenAt o1 0
      have k1 := World.ownsRow.frozenAt o1 1
      have k2 := World.ownsRow.frozenAt o1 2
      simp only [List.getElem?_cons_succ, List.getElem?_cons_zero] at g0 g1 g2
      have s0 := World.ownsRow.stored o1 0 (.int .i64 0)
      have s1 := World.ownsRow.stored s0.1 1 (.slice none 0 0)
      have s2 := World.ownsRow.stored s1.1 2 (.slice none 0 0)
      have m0 := World.ownsRow.cellAt s0.1 0 (by omega)
      have m1 := World.ownsRow.cellAt s1.1 1 (by omega)
      have m2 := World.ownsRow.cellAt s2.1 2 (by omega)
      simp only [List.set_cons_succ, List.set_cons_zero, List.getElem?_cons_succ, List.getElem?_cons_zero] at m0 m1 m2
      have hBF := ((hB.setCell (p := ⟨w.heap.size, 0, none⟩) (by simp) (.int .i64 0)).setCell (p := ⟨w.heap.size, 1, none⟩) (by simp) (.slice none 0 0)).setCell (p := ⟨w.heap.size, 2, none⟩) (by simp) (.slice none 0 0)
      have HF := Lib.hid hBF
      clear s0 s1 s2 hB hxs o1 hBF 
      go_wp2_with (fail)
      (try simp only [Exit.inBlock, Exit.then])
      refine bodyPost_ret (by simp [results, Tryd.results33, go_sem, m0, m1, m2]; try rfl) rfl ?_
      refine ⟨.slice none 0 0, .slice none 0 0, ret_cue (by rw [HR.out.1]) HR.out.2.symm, ?_, ?_, .inl rfl, HF.out⟩
      · rw [HR.out.1]; exact OwI.nil _ _
      · rw [HR.out.1]; exact OwI.nil _ _
  · have q3 : ¬ (xs.length : Int) = 3 := by omega
    have HR := Lib.hid (rc_none (rcF_three (l := s.data.toList) (by rw [← hxs, List.length_map]; exact h3)))
    obtain ⟨au, cu, rfl, _⟩ : ∃ a c, up = .slice a xs.length c ∧ True := by
      rcases op.open with ⟨rfl, h0⟩ | ⟨g, c, rfl, _⟩
      · exact ⟨none, 0, by rw [h0]; rfl, trivial⟩
      · exact ⟨_, _, rfl, trivial⟩
    clear op h3
    have g0 := World.ownsRow.cellAt o1 0 (by omega)
    have g1 := World.ownsRow.cellAt o1 1 (by omega)
    have g2 := World.ownsRow.cellAt o1 2 (by omega)
    have k0 := World.ownsRow.frozenAt o1 0
    have k1 := World.ownsRow.frozenAt o1 1
    have k2 := World.ownsRow.frozenAt o1 2
    simp only [List.getElem?_cons_succ, List.getElem?_cons_zero] at g0 g1 g2
    have s0 := World.ownsRow.stored o1 0 (.int .i64 0)
    have s1 := World.ownsRow.stored s0.1 1 (.slice none 0 0)
    have s2 := World.ownsRow.stored s1.1 2 (.slice none 0 0)
    have m0 := World.ownsRow.cellAt s0.1 0 (by omega)
    have m1 := World.ownsRow.cellAt s1.1 1 (by omega)
    have m2 := World.ownsRow.cellAt s2.1 2 (by omega)
    simp only [List.set_cons_succ, List.set_cons_zero, List.getElem?_cons_succ, List.getElem?_cons_zero] at m0 m1 m2
    have hBF := ((hB.setCell (p := ⟨w.heap.size, 0, none⟩) (by simp) (.int .i64 0)).setCell (p := ⟨w.heap.size, 1, none⟩) (by simp) (.slice none 0 0)).setCell (p := ⟨w.heap.size, 2, none⟩) (by simp) (.slice none 0 0)
    have HF := Lib.hid hBF
    clear s0 s1 s2 hB hxs o1 hBF 
    go_wp2_with (fail)
    (try simp only [Exit.inBlock, Exit.then])
    refine bodyPost_ret (by simp [results, Tryd.results33, go_sem, m0, m1, m2]; try rfl) rfl ?_
    refine ⟨.slice none 0 0, .slice none 0 0, ret_cue (by rw [HR.out.1]) HR.out.2.symm, ?_, ?_, .inl rfl, HF.out⟩
    · rw [HR.out.1]; exact OwI.nil _ _
    · rw [HR.out.1]; exact OwI.nil _ _
set_option maxHeartbeats 1000000 in
theorem implReadCue_any (s : ByteArray) (hs : s.size ≤ 1048576) (w : World) (ht : Pow10 w) (he : HasErr w) (hm : HasMax w) :
    Calls Tryd.prog 31 #[.string s] w fun e w' => ∃ u1 u2, e = .returned (.tuple #[.agg #[.int .i64 (rcV s.data.toList).1, u1, u2], .bool (rcB s.data.toList)]) ∧ OwI w' w.heap.size u1 (rcV s.data.toList).2.1 ∧ OwI w' w.heap.size u2 (rcV s.data.toList).2.2 ∧ Dis u1 u2 ∧ Below w.heap.size w w' := by
  have hsz : s.data.toList.length = s.size := (Lib.size_eq s).symm
  obtain ⟨mx, hmx⟩ := hm
  have HM := Lib.hid hmx
  have HT := Lib.hid (And.intro ht (And.intro he (Exists.intro mx hmx : HasMax w)))
  clear ht he hmx
  have hsp := Lib.hid (fun w' h => split_any s 47 mx w' (by omega) h)
  have hB := below_alloc1 w (.cells #[.int .i64 0, .slice none 0 0, .slice none 0 0] 31)
  have hNZ : splitP 47 s.data.toList ≠ [] := splitP_ne _ _
  go_enter Tryd.func31, Tryd.ntmps31
  go_wp2_with (fail)
  refine (hsp.out _ (cell_on hB HM.out)).mono ?_
  rintro e w2 ⟨up, xs, rfl, op, hxs, hb⟩
  have o1 : (w.alloc (.cells #[.int .i64 0, .slice none 0 0, .slice none 0 0] 31)).ownsRow w.heap.size 31 3 (.slice (some ⟨w.heap.size, 0, none⟩) 1 1) 1 [.int .i64 0, .slice none 0 0, .slice none 0 0] := World.ownsRow_lit (base := w.heap.size) (e := 31) (size := 3) w #[.int .i64 0, .slice none 0 0, .slice none 0 0] 1 (by simp) (by rw [maxLen_eq]; omega) rfl
  have hs1 : (w.alloc (.cells #[.int .i64 0, .slice none 0 0, .slice none 0 0] 31)).heap.size = w.heap.size + 1 := by simp
  replace op := op.base (show w.heap.size + 1 ≤ _ by rw [hs1]; exact Nat.le_refl _)
  replace o1 := own_below o1 hb
  replace hB := bvia hB hb
  clear hb hs1 hsp
  by_cases h3 : xs.length = 3
  · obtain ⟨x0, x1, x2, rfl⟩ := three_of h3
    obtain ⟨gp, cp, rfl, hgp, hcp, hmp, hcell⟩ := op.full (by simp)
    have c0 := hcell 0 x0 rfl
    have c1 := hcell 1 x1 rfl
    have c2 := hcell 2 x2 rfl
    have z0 := piece_sz hxs (k := 0) (x := x0) rfl
    have z1 := piece_sz hxs (k := 1) (x := x1) rfl
    have z2 := piece_sz hxs (k := 2) (x := x2) rfl
    simp only [List.map_cons, List.map_nil] at hxs
    clear hcell h3 op
    simp only [List.length_cons, List.length_nil, Nat.zero_add, Nat.reduceAdd] at hcp ⊢
    have HP := Lib.hid (fun w' h0 h1 => implParseUint_any x0 (by omega) w' h0 h1)
    rw [puV_form] at HP
    generalize hto : (((puF x0.data.toList).getD 0 : Nat) : Int) = t at HP
    generalize hb0 : (puF x0.data.toList).isSome = b0 at HP
    have HA := Lib.hid (fun w' h0 h1 h2 => implReadNumbers_any x1 (by omega) w' h0 h1 h2)
    have HN := Lib.hid (fun w' h0 h1 h2 => implReadNumbers_any x2 (by omega) w' h0 h1 h2)
    generalize hva : rdV x1.data.toList = va at HA
    generalize hba : rdB x1.data.toList = ba at HA
    generalize hvp : rdV x2.data.toList = vp at HN
    generalize hbp : rdB x2.data.toList = bp at HN
    go_wp2_with (fail)
    refine (HP.out _ (tabIs_below HT.out.1 hB) (HasErr.below HT.out.2.1 hB)).mono ?_
    rintro e w3 ⟨rfl, hb⟩
    replace c1 := cell_on hb c1
    replace c2 := cell_on hb c2
    replace o1 := own_below o1 hb
    replace hB := bvia hB hb
    clear hb c0 hgp
    go_wp2_with (fail)
    refine (HA.out _ (tabIs_below HT.out.1 hB) (HasErr.below HT.out.2.1 hB) (HasMax.below HT.out.2.2 hB)).mono ?_
    rintro e w4 ⟨u1, rfl, ou1, hb⟩
    have hw3 := hB.size
    have hw3' : w.heap.size < w3.heap.size := (World.ownsRow.lt o1 _ rfl).2
    replace c2 := cell_on hb c2
    replace o1 := own_below o1 hb
    replace hB := bvia hB hb
    clear hb c1
    go_wp2_with (fail)
    refine (HN.out _ (tabIs_below HT.out.1 hB) (HasErr.below HT.out.2.1 hB) (HasMax.below HT.out.2.2 hB)).mono ?_
    rintro e w5 ⟨u2, rfl, ou2, hb⟩
    have hw4 := hB.size
    have hne1 : ∀ q, u1.ownBlock = some q → q ≠ w.heap.size := fun q hq => by have := (ou1.lt q hq).1; omega
    have hne2 : ∀ q, u2.ownBlock = some q → q ≠ w.heap.size := fun q hq => by have := (ou2.lt q hq).1; have : w.heap.size < w4.heap.size := (World.ownsRow.lt o1 _ rfl).2; omega
    have d12 : Dis u1 u2 := dis_lt (C := w4.heap.size) (fun q hq => (ou1.lt q hq).2) (fun q hq => (ou2.lt q hq).1)
    replace ou1 := (ou1.base hw3).below hb
    replace ou2 := ou2.base hw4
    replace o1 := own_below o1 hb
    replace hB := bvia hB hb
    clear hb c2 HP HA HN
    obtain ⟨a1, y1, rfl⟩ := ou1.rd.shape
    obtain ⟨a2, y2, rfl⟩ := ou2.rd.shape
    have hbX := below_alloc1 w5 (.cells #[.int .i64 t, .slice a1 va.length y1, .slice a2 vp.length y2] 31)
    replace ou1 := ou1.below hbX
    replace ou2 := ou2.below hbX
    replace o1 := own_below o1 hbX
    replace hB := bvia hB hbX
    clear hbX
    cases b0 with
    | false =>
      have HR := Lib.hid (rc_none (rcF_no (l := s.data.toList) hxs.symm (by intro h1 h2 h3; exfalso; (first | (rw [hb0] at h1; cases h1; done) | (rw [hba] at h2; cases h2; done) | (rw [hbp] at h3; cases h3; done)))))
      clear hto hb0 hva hba hvp hbp hne1 hne2 d12 ou1 ou2
      have g0 := World.ownsRow.cellAt o1 0 (by omega)
      have g1 := World.ownsRow.cellAt o1 1 (by omega)
      have g2 := World.ownsRow.cellAt o1 2 (by omega)
      have k0 := World.ownsRow.frozenAt o1 0
      have k1 := World.ownsRow.frozenAt o1 1
      have k2 := World.ownsRow.frozenAt o1 2
      simp only [List.getElem?_cons_succ, List.getElem?_cons_zero] at g0 g1 g2
      have s0 := World.ownsRow.stored o1 0 (.int .i64 0)
      have s1 := World.ownsRow.stored s0.1 1 (.slice none 0 0)
      have s2 := World.ownsRow.stored s1.1 2 (.slice none 0 0)
      have m0 := World.ownsRow.cellAt s0.1 0 (by omega)
      have m1 := World.ownsRow.cellAt s1.1 1 (by omega)
      have m2 := World.ownsRow.cellAt s2.1 2 (by omega)
      simp only [List.set_cons_succ, List.set_cons_zero, List.getElem?_cons_succ, List.getElem?_cons_zero] at m0 m1 m2
      have hBF := ((hB.setCell (p := ⟨w.heap.size, 0, none⟩) (by simp) (.int .i64 0)).setCell (p := ⟨w.heap.size, 1, none⟩) (by simp) (.slice none 0 0)).setCell (p := ⟨w.heap.size, 2, none⟩) (by simp) (.slice none 0 0)
      have HF := Lib.hid hBF
      clear s0 s1 s2 hB hxs o1 hBF 
      go_wp2_with (fail)
      (try simp only [Exit.inBlock, Exit.then])
      refine bodyPost_ret (by simp [results, Tryd.results31, go_sem, m0, m1, m2]; try rfl) rfl ?_
      refine ⟨.slice none 0 0, .slice none 0 0, ret_cue (by rw [HR.out.1]) HR.out.2.symm, ?_, ?_, .inl rfl, HF.out⟩
      · rw [HR.out.1]; exact OwI.nil _ _
      · rw [HR.out.1]; exact OwI.nil _ _
    | true =>
      cases ba with
      | false =>
        have HR := Lib.hid (rc_none (rcF_no (l := s.data.toList) hxs.symm (by intro h1 h2 h3; exfalso; (first | (rw [hb0] at h1; cases h1; done) | (rw [hba] at h2; cases h2; done) | (rw [hbp] at h3; cases h3; done)))))
        clear hto hb0 hva hba hvp hbp hne1 hne2 d12 ou1 ou2
        have g0 := World.ownsRow.cellAt o1 0 (by omega)
        have g1 := World.ownsRow.cellAt o1 1 (by omega)
        have g2 := World.ownsRow.cellAt o1 2 (by omega)
        have k0 := World.ownsRow.frozenAt o1 0
        have k1 := World.ownsRow.frozenAt o1 1
        have k2 := World.ownsRow.frozenAt o1 2
        simp only [List.getElem?_cons_succ, List.getElem?_cons_zero] at g0 g1 g2
        have s0 := World.ownsRow.stored o1 0 (.int .i64 0)
        have s1 := World.ownsRow.stored s0.1 1 (.slice none 0 0)
        have s2 := World.ownsRow.stored s1.1 2 (.slice none 0 0)
        have m0 := World.ownsRow.cellAt s0.1 0 (by omega)
        have m1 := World.ownsRow.cellAt s1.1 1 (by omega)
        have m2 := World.ownsRow.cellAt s2.1 2 (by omega)
        simp only [List.set_cons_succ, List.set_cons_zero, List.getElem?_cons_succ, List.getElem?_cons_zero] at m0 m1 m2
        have hBF := ((hB.setCell (p := ⟨w.heap.size, 0, none⟩) (by simp) (.int .i64 0)).setCell (p := ⟨w.heap.size, 1, none⟩) (by simp) (.slice none 0 0)).setCell (p := ⟨w.heap.size, 2, none⟩) (by simp) (.slice none 0 0)
        have HF := Lib.hid hBF
        clear s0 s1 s2 hB hxs o1 hBF 
        go_wp2_with (fail)
        (try simp only [Exit.inBlock, Exit.then])
        refine bodyPost_ret (by simp [results, Tryd.results31, go_sem, m0, m1, m2]; try rfl) rfl ?_
        refine ⟨.slice none 0 0, .slice none 0 0, ret_cue (by rw [HR.out.1]) HR.out.2.symm, ?_, ?_, .inl rfl, HF.out⟩
        · rw [HR.out.1]; exact OwI.nil _ _
        · rw [HR.out.1]; exact OwI.nil _ _
      | true =>
        cases bp with
        | false =>
          have HR := Lib.hid (rc_none (rcF_no (l := s.data.toList) hxs.symm (by intro h1 h2 h3; exfalso; (first | (rw [hb0] at h1; cases h1; done) | (rw [hba] at h2; cases h2; done) | (rw [hbp] at h3; cases h3; done)))))
          clear hto hb0 hva hba hvp hbp hne1 hne2 d12 ou1 ou2
          have g0 := World.ownsRow.cellAt o1 0 (by omega)
          have g1 := World.ownsRow.cellAt o1 1 (by omega)
          have g2 := World.ownsRow.cellAt o1 2 (by omega)
          have k0 := World.ownsRow.frozenAt o1 0
          have k1 := World.ownsRow.frozenAt o1 1
          have k2 := World.ownsRow.frozenAt o1 2
          simp only [List.getElem?_cons_succ, List.getElem?_cons_zero] at g0 g1 g2
          have s0 := World.ownsRow.stored o1 0 (.int .i64 0)
          have s1 := World.ownsRow.stored s0.1 1 (.slice none 0 0)
          have s2 := World.ownsRow.stored s1.1 2 (.slice none 0 0)
          have m0 := World.ownsRow.cellAt s0.1 0 (by omega)
          have m1 := World.ownsRow.cellAt s1.1 1 (by omega)
          have m2 := World.ownsRow.cellAt s2.1 2 (by omega)
          simp only [List.set_cons_succ, List.set_cons_zero, List.getElem?_cons_succ, List.getElem?_cons_zero] at m0 m1 m2
          have hBF := ((hB.setCell (p := ⟨w.heap.size, 0, none⟩) (by simp) (.int .i64 0)).setCell (p := ⟨w.heap.size, 1, none⟩) (by simp) (.slice none 0 0)).setCell (p := ⟨w.heap.size, 2, none⟩) (by simp) (.slice none 0 0)
          have HF := Lib.hid hBF
          clear s0 s1 s2 hB hxs o1 hBF 
          go_wp2_with (fail)
          (try simp only [Exit.inBlock, Exit.then])
          refine bodyPost_ret (by simp [results, Tryd.results31, go_sem, m0, m1, m2]; try rfl) rfl ?_
          refine ⟨.slice none 0 0, .slice none 0 0, ret_cue (by rw [HR.out.1]) HR.out.2.symm, ?_, ?_, .inl rfl, HF.out⟩
          · rw [HR.out.1]; exact OwI.nil _ _
          · rw [HR.out.1]; exact OwI.nil _ _
        | true =>
          have hE0 : (w5.alloc (.cells #[.int .i64 t, .slice a1 va.length y1, .slice a2 vp.length y2] 31)).cell? ⟨w5.heap.size, 0, none⟩ = some (.int .i64 t) := by simp [go_sem]
          have hE1 : (w5.alloc (.cells #[.int .i64 t, .slice a1 va.length y1, .slice a2 vp.length y2] 31)).cell? ⟨w5.heap.size, 1, none⟩ = some (.slice a1 va.length y1) := by simp [go_sem]
          have hE2 : (w5.alloc (.cells #[.int .i64 t, .slice a1 va.length y1, .slice a2 vp.length y2] 31)).cell? ⟨w5.heap.size, 2, none⟩ = some (.slice a2 vp.length y2) := by simp [go_sem]
          have HX := Lib.hid (And.intro hE0 (And.intro hE1 hE2))
          clear hE0 hE1 hE2
          have HC := Lib.hid (fun w' h1 h2 ht => implCueText_any t va vp (.slice a1 va.length y1) (.slice a2 vp.length y2) w' h1 h2 ht)
          obtain ⟨f, hf⟩ : ∃ f : ByteArray, (⟨(cueL t va vp).toArray⟩ : ByteArray) = f := ⟨_, rfl⟩
          rw [hf] at HC
          have hfd : f.data.toList = cueL t va vp := by rw [← hf]
          by_cases hfs : f = s
          · have HR := Lib.hid (rc_some (rcF_of (l := s.data.toList) hxs.symm hb0 hba hbp (by rw [hto, hva, hvp, ← hfd, hfs])))
            rw [hto, hva, hvp] at HR
            have hbq : (f.toList == s.toList) = true := by rw [hfs]; exact beq_self_eq_true _
            clear hto hb0 hva hba hvp hbp hf hfd hfs
            go_wp2_with (fail)
            refine (HC.out _ ou1.rd ou2.rd (tabIs_below HT.out.1 hB)).mono ?_
            rintro e w6 ⟨rfl, hb⟩
            have e0 := cell_on hb HX.out.1
            have e1 := cell_on hb HX.out.2.1
            have e2 := cell_on hb HX.out.2.2
            replace ou1 := ou1.below hb
            replace ou2 := ou2.below hb
            replace o1 := own_below o1 hb
            replace hB := bvia hB hb
            clear hb HC HX
            have g0 := World.ownsRow.cellAt o1 0 (by omega)
            have g1 := World.ownsRow.cellAt o1 1 (by omega)
            have g2 := World.ownsRow.cellAt o1 2 (by omega)
            have k0 := World.ownsRow.frozenAt o1 0
            have k1 := World.ownsRow.frozenAt o1 1
            have k2 := World.ownsRow.frozenAt o1 2
            simp only [List.getElem?_cons_succ, List.getElem?_cons_zero] at g0 g1 g2
            have s0 := World.ownsRow.stored o1 0 (.int .i64 t)
            have s1 := World.ownsRow.stored s0.1 1 (.slice a1 va.length y1)
            have s2 := World.ownsRow.stored s1.1 2 (.slice a2 vp.length y2)
            have m0 := World.ownsRow.cellAt s0.1 0 (by omega)
            have m1 := World.ownsRow.cellAt s1.1 1 (by omega)
            have m2 := World.ownsRow.cellAt s2.1 2 (by omega)
            simp only [List.set_cons_succ, List.set_cons_zero, List.getElem?_cons_succ, List.getElem?_cons_zero] at m0 m1 m2
            have hBF := ((hB.setCell (p := ⟨w.heap.size, 0, none⟩) (by simp) (.int .i64 t)).setCell (p := ⟨w.heap.size, 1, none⟩) (by simp) (.slice a1 va.length y1)).setCell (p := ⟨w.heap.size, 2, none⟩) (by simp) (.slice a2 vp.length y2)
            have hd1 : Dis (.slice a1 va.length y1) (.slice (some ⟨w.heap.size, 0, none⟩) 1 1) := dis_ne0 hne1
            have hd2 : Dis (.slice a2 vp.length y2) (.slice (some ⟨w.heap.size, 0, none⟩) 1 1) := dis_ne0 hne2
            have r1 := ((ou1.kept s0.2 hd1).kept s1.2 hd1).kept s2.2 hd1
            have r2 := ((ou2.kept s0.2 hd2).kept s1.2 hd2).kept s2.2 hd2
            clear hd1 hd2 hne1 hne2
            have HF := Lib.hid (And.intro r1 (And.intro r2 hBF))
            clear s0 s1 s2 hB hxs o1 hBF r1 r2 ou1 ou2 
            go_wp2_with (fail)
            (try simp only [Exit.inBlock, Exit.then])
            refine bodyPost_ret (by simp [results, Tryd.results31, go_sem, m0, m1, m2]; try rfl) rfl ?_
            refine ⟨_, _, ret_cue (by rw [HR.out.1]) HR.out.2.symm, ?_, ?_, d12, HF.out.2.2⟩
            · rw [HR.out.1]; exact HF.out.1
            · rw [HR.out.1]; exact HF.out.2.1
          · have HR := Lib.hid (rc_none (rcF_no (l := s.data.toList) hxs.symm (by intro _ _ _; rw [hto, hva, hvp, ← hfd]; exact fun e => hfs (str_eq e))))
            have hbq : (f.toList == s.toList) = false := beq_eq_false_iff_ne.2 fun e => hfs (toList_inj e)
            clear hto hb0 hva hba hvp hbp hf hfd hfs hne1 hne2
            go_wp2_with (fail)
            refine (HC.out _ ou1.rd ou2.rd (tabIs_below HT.out.1 hB)).mono ?_
            rintro e w6 ⟨rfl, hb⟩
            replace o1 := own_below o1 hb
            replace hB := bvia hB hb
            clear hb HC HX ou1 ou2 d12
            have g0 := World.ownsRow.cellAt o1 0 (by omega)
            have g1 := World.ownsRow.cellAt o1 1 (by omega)
            have g2 := World.ownsRow.cellAt o1 2 (by omega)
            have k0 := World.ownsRow.frozenAt o1 0
            have k1 := World.ownsRow.frozenAt o1 1
            have k2 := World.ownsRow.frozenAt o1 2
            simp only [List.getElem?_cons_succ, List.getElem?_cons_zero] at g0 g1 g2
            have s0 := World.ownsRow.stored o1 0 (.int .i64 0)
            have s1 := World.ownsRow.stored s0.1 1 (.slice none 0 0)
            have s2 := World.ownsRow.stored s1.1 2 (.slice none 0 0)
            have m0 := World.ownsRow.cellAt s0.1 0 (by omega)
            have m1 := World.ownsRow.cellAt s1.1 1 (by omega)
            have m2 := World.ownsRow.cellAt s2.1 2 (by omega)
            simp only [List.set_cons_succ, List.set_cons_zero, List.getElem?_cons_succ, List.getElem?_cons_zero] at m0 m1 m2
            have hBF := ((hB.setCell (p := ⟨w.heap.size, 0, none⟩) (by simp) (.int .i64 0)).setCell (p := ⟨w.heap.size, 1, none⟩) (by simp) (.slice none 0 0)).setCell (p := ⟨w.heap.size, 2, none⟩) (by simp) (.slice none 0 0)
            have HF := Lib.hid hBF
            clear s0 s1 s2 hB hxs o1 hBF 
            go_wp2_with (fail)
            (try simp only [Exit.inBlock, Exit.then])
            refine bodyPost_ret (by simp [results, Tryd.results31, go_sem, m0, m1, m2]; try rfl) rfl ?_
            refine ⟨.slice none 0 0, .slice none 0 0, ret_cue (by rw [HR.out.1]) HR.out.2.symm, ?_, ?_, .inl rfl, HF.out⟩
            · rw [HR.out.1]; exact OwI.nil _ _
            · rw [HR.out.1]; exact OwI.nil _ _
  · have q3 : ¬ (xs.length : Int) = 3 := by omega
    have HR := Lib.hid (rc_none (rcF_three (l := s.data.toList) (by rw [← hxs, List.length_map]; exact h3)))
    obtain ⟨au, cu, rfl, _⟩ : ∃ a c, up = .slice a xs.length c ∧ True := by
      rcases op.open with ⟨rfl, h0⟩ | ⟨g, c, rfl, _⟩
      · exact ⟨none, 0, by rw [h0]; rfl, trivial⟩
      · exact ⟨_, _, rfl, trivial⟩
    clear op h3
    have g0 := World.ownsRow.cellAt o1 0 (by omega)
    have g1 := World.ownsRow.cellAt o1 1 (by omega)
    have g2 := World.ownsRow.cellAt o1 2 (by omega)
    have k0 := World.ownsRow.frozenAt o1 0
    have k1 := World.ownsRow.frozenAt o1 1
    have k2 := World.ownsRow.frozenAt o1 2
    simp only [List.getElem?_cons_succ, List.getElem?_cons_zero] at g0 g1 g2
    have s0 := World.ownsRow.stored o1 0 (.int .i64 0)
    have s1 := World.ownsRow.stored s0.1 1 (.slice none 0 0)
    have s2 := World.ownsRow.stored s1.1 2 (.slice none 0 0)
    have m0 := World.ownsRow.cellAt s0.1 0 (by omega)
    have m1 := World.ownsRow.cellAt s1.1 1 (by omega)
    have m2 := World.ownsRow.cellAt s2.1 2 (by omega)
    simp only [List.set_cons_succ, List.set_cons_zero, List.getElem?_cons_succ, List.getElem?_cons_zero] at m0 m1 m2
    have hBF := ((hB.setCell (p := ⟨w.heap.size, 0, none⟩) (by simp) (.int .i64 0)).setCell (p := ⟨w.heap.size, 1, none⟩) (by simp) (.slice none 0 0)).setCell (p := ⟨w.heap.size, 2, none⟩) (by simp) (.slice none 0 0)
    have HF := Lib.hid hBF
    clear s0 s1 s2 hB hxs o1 hBF 
    go_wp2_with (fail)
    (try simp only [Exit.inBlock, Exit.then])
    refine bodyPost_ret (by simp [results, Tryd.results31, go_sem, m0, m1, m2]; try rfl) rfl ?_
    refine ⟨.slice none 0 0, .slice none 0 0, ret_cue (by rw [HR.out.1]) HR.out.2.symm, ?_, ?_, .inl rfl, HF.out⟩
    · rw [HR.out.1]; exact OwI.nil _ _
    · rw [HR.out.1]; exact OwI.nil _ _
end Go.Proofs.YtkkcglncjdoacaaDoor
