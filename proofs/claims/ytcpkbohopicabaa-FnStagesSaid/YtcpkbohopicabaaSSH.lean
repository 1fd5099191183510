/- The walks of the laws' helpers on [][]int: szIntSS counts, toIntSS copies, eqIntSS compares two equal ones, markIntSS writes numbers in turn, heldIntSS finds them there. -/
import Derived.Test.YtcpkbohopicabaaSS
import Derived.Test.YtcpkbohopicabaaRg
namespace Go.Proofs.Ytcpkbohopicabaa
open Go.ChangeShapes Go.WideShapes Go.ChangeAt Go.RowKit Go.Joins
set_option linter.unusedSimpArgs false
set_option linter.unusedVariables false

def totL : LL → Nat
  | [] => 0
  | zs :: r => zs.length + totL r
theorem totL_mem {zss : LL} {zs : List Int} (h : zs ∈ zss) : zs.length ≤ totL zss := by
  induction zss with
  | nil => simp at h
  | cons y r ih =>
    simp only [totL]
    rcases List.mem_cons.1 h with rfl | h
    · omega
    · have := ih h; omega
theorem totL_append (a b : LL) : totL (a ++ b) = totL a + totL b := by
  induction a with
  | nil => simp [totL]
  | cons y r ih => simp only [List.cons_append, totL, ih]; omega
theorem getSS {zss : LL} {k : Nat} (h : k < zss.length) : ∃ zs, zss[k]? = some zs ∧ zs ∈ zss ∧ zss.drop k = zs :: zss.drop (k + 1) ∧ zss.take (k + 1) = zss.take k ++ [zs] := by
  have hk := List.getElem?_eq_getElem h
  refine ⟨_, hk, List.getElem_mem h, List.drop_eq_getElem_cons h, ?_⟩
  rw [List.take_succ_eq_append_getElem h]
theorem szIntS_ok (n : Nat) (a : Option Addr) (cap : Nat) (l : Int) (hl : l ≤ 1048576) (h : (n : Int) ≤ l) (w : World) :
    Calls Try.prog 49 #[.slice a n cap, .int .i64 l] w fun e w' => e = .returned (.int .i64 (l - n)) ∧ w = w' := by
  go_enter Try.func49, Try.ntmps49
  go_wp2
  go_ret
  exact ⟨rfl, rfl⟩
theorem szIntS_no (n : Nat) (a : Option Addr) (cap : Nat) (hn : n ≤ 9223372036854775807) (l : Int) (h0 : 0 ≤ l) (hl : l ≤ 1048576) (h : l < (n : Int)) (w : World) :
    Calls Try.prog 49 #[.slice a n cap, .int .i64 l] w fun e w' => e = .returned (.int .i64 (-1)) ∧ w = w' := by
  go_enter Try.func49, Try.ntmps49
  go_wp2
  go_ret
  exact ⟨rfl, rfl⟩
theorem szIntSS_ok (zss : LL) (l : Int) (hl : l ≤ 1048576) (h : (zss.length : Int) + totL zss ≤ l) (v : Value) (w : World) (hr : RdII w v zss) :
    Calls Try.prog 22 #[v, .int .i64 l] w fun e w' => e = .returned (.int .i64 (l - zss.length - totL zss)) ∧ w = w' := by
  obtain ⟨ad, cap, bl, off, rfl, hcap, hmax, had, hc⟩ := hr.open
  have HC := Lib.hid hc
  clear hr hc
  go_enter Try.func22, Try.ntmps22
  go_wp2
  go_loop [1, 5] (fun q i => ∃ k : Nat, k ≤ zss.length ∧ i = .int .i64 k ∧ q = .int .i64 (l - zss.length - totL (zss.take k))) (fun _ i => zss.length - (intOf i).toNat)
  case atStart => exact ⟨0, Nat.zero_le _, rfl, by simp [totL]⟩
  case round =>
    obtain ⟨k, hk, rfl, rfl⟩ := hrel
    by_cases hlt : k < zss.length
    · obtain rfl := had (by omega)
      obtain ⟨zs, hz, hm, hd, ht⟩ := getSS hlt
      obtain ⟨u, hck, hu⟩ := HC.out k zs hz
      obtain ⟨a2, cap2, rfl⟩ := hu.shape
      have ht1 : totL (zss.take (k + 1)) = totL (zss.take k) + zs.length := by rw [ht, totL_append]; simp [totL]
      have ht2 : totL zss = totL (zss.take (k + 1)) + totL (zss.drop (k + 1)) := by rw [← totL_append, List.take_append_drop]
      clear ht hd hm hz hu
      go_wp2_with (fail)
      refine (szIntS_ok _ _ _ _ (by omega) (by omega) _).mono ?_
      rintro e w1 ⟨rfl, rfl⟩
      go_wp2
      exact ⟨⟨k + 1, by omega, by go_num, by rw [ht1]; go_num⟩, by simp [intOf]; omega⟩
    · go_wp2
      go_ret
      obtain rfl : k = zss.length := by omega
      exact ⟨by rw [List.take_length]; rfl, rfl⟩
theorem szIntSS_no (zss : LL) (l : Int) (h0 : 0 ≤ l) (hl : l ≤ 1048576) (h : l < (zss.length : Int) + totL zss) (v : Value) (w : World) (hr : RdII w v zss) :
    Calls Try.prog 22 #[v, .int .i64 l] w fun e w' => e = .returned (.int .i64 (-1)) ∧ w = w' := by
  obtain ⟨ad, cap, bl, off, rfl, hcap, hmax, had, hc⟩ := hr.open
  by_cases hn : l < (zss.length : Int)
  · go_enter Try.func22, Try.ntmps22
    go_wp2
    go_ret
    exact ⟨rfl, rfl⟩
  have HC := Lib.hid hc
  clear hr hc
  go_enter Try.func22, Try.ntmps22
  go_wp2
  go_loop [1, 5] (fun q i => ∃ k : Nat, k ≤ zss.length ∧ i = .int .i64 k ∧ q = .int .i64 (l - zss.length - totL (zss.take k)) ∧ (zss.length : Int) + totL (zss.take k) ≤ l) (fun _ i => zss.length - (intOf i).toNat)
  case atStart => exact ⟨0, Nat.zero_le _, rfl, by simp [totL], by simp [totL]; omega⟩
  case round =>
    obtain ⟨k, hk, rfl, rfl, hle⟩ := hrel
    by_cases hlt : k < zss.length
    · obtain rfl := had (by omega)
      obtain ⟨zs, hz, hm, hd, ht⟩ := getSS hlt
      obtain ⟨u, hck, hu⟩ := HC.out k zs hz
      have hmx : zs.length ≤ 9223372036854775807 := by obtain ⟨_, _, _, _, _, h1, h2, _⟩ := hu.open; omega
      obtain ⟨a2, cap2, rfl⟩ := hu.shape
      have ht1 : totL (zss.take (k + 1)) = totL (zss.take k) + zs.length := by rw [ht, totL_append]; simp [totL]
      clear ht hd hm hz hu
      by_cases hz : (zs.length : Int) ≤ l - zss.length - totL (zss.take k)
      · go_wp2_with (fail)
        refine (szIntS_ok _ _ _ _ (by omega) (by omega) _).mono ?_
        rintro e w1 ⟨rfl, rfl⟩
        go_wp2
        exact ⟨⟨k + 1, by omega, by go_num, by rw [ht1]; go_num, by omega⟩, by simp [intOf]; omega⟩
      · go_wp2_with (fail)
        refine (szIntS_no _ _ _ hmx _ (by omega) (by omega) (by omega) _).mono ?_
        rintro e w1 ⟨rfl, rfl⟩
        go_wp2
        go_ret
        exact ⟨rfl, rfl⟩
    · obtain rfl : k = zss.length := by omega
      rw [List.take_length] at hle
      omega
theorem toIntSS_any (zss : LL) (hn : zss.length + totL zss ≤ 1048576) (v : Value) (w : World) (h : RdII w v zss) :
    Calls Try.prog 24 #[v] w fun e w' => ∃ u, e = .returned u ∧ OwII w' w.heap.size u zss ∧ Below w.heap.size w w' := by
  obtain ⟨ad, cap, bl, off, rfl, hcap, hmax, had, hc⟩ := h.open
  have HC := Lib.hid hc
  clear h hc
  have hmk := run_make_row' (P := Try.prog) 38 32 (.slice none 0 0) 24 underIntss infoInts rfl .i64 .i64 zss.length (by omega) (by omega)
  have h0 := World.ownsRow_lit (base := w.heap.size) (e := 32) (size := 1) w (madeCells #[.slice none 0 0] zss.length) zss.length (Nat.le_refl _) (by rw [maxLen_eq]; omega) (by rw [size_madeCells]; omega)
  rw [toList_madeCells_one] at h0
  have HO := Lib.hid h0
  clear h0
  go_enter Try.func24, Try.ntmps24
  go_wp2
  clear hmk
  go_loopw [4] (fun i wr => ∃ k : Nat, k ≤ zss.length ∧ i = .int .i64 k ∧ Hid (∃ us rs, us.length = k ∧ wr.ownsRow w.heap.size 32 1 (.slice (some ⟨w.heap.size, 0, none⟩) zss.length zss.length) zss.length (us ++ rs) ∧ OwRows wr w.heap.size (.slice (some ⟨w.heap.size, 0, none⟩) zss.length zss.length) us (zss.take k)) ∧ Below w.heap.size w wr) (fun i _ => zss.length - (intOf i).toNat)
  case atStart => exact ⟨0, Nat.zero_le _, rfl, ⟨[], _, rfl, HO.out, by rw [List.take_zero]; exact OwRows.nil _ _ _⟩, below_alloc1 _ _⟩
  case round =>
    obtain ⟨k, hk, rfl, HI, hB⟩ := hrel
    by_cases hlt : k < zss.length
    · obtain ⟨us, rs, hul, ho, hrows⟩ := HI.out
      obtain rfl := had (by omega)
      obtain ⟨zs, hz, hm, hd, ht⟩ := getSS hlt
      obtain ⟨u, hck, hu⟩ := HC.out k zs hz
      have hzl : zs.length ≤ 1048576 := by have := totL_mem hm; omega
      replace hu := hu.below hB
      replace hck := cell_on hB hck
      have hrl : us.length + rs.length = zss.length := by have := ho.1; simp at this; omega
      clear hz hd hm HI
      go_wp2_with (fail)
      refine (toIntS_any zs hzl _ _ hu).mono ?_
      rintro e w1 ⟨x, rfl, ox, hb⟩
      obtain ⟨ax, cx, rfl⟩ := ox.rd.shape
      obtain ⟨x, hxx⟩ : ∃ x, x = Value.slice ax zs.length cx := ⟨_, rfl⟩
      rw [← hxx] at ox
      have hf := World.ownsRow.frozenAt (own_below ho hb) k
      have hcd := World.ownsRow.cellAt (own_below ho hb) k (by omega)
      rw [List.getElem?_append_right (by omega), hul, Nat.sub_self, List.getElem?_eq_getElem (by omega)] at hcd
      have hst := World.ownsRow.stored (own_below ho hb) k x
      have hgs := World.ownsRow.lt ho w.heap.size rfl
      have hB2 : Below w.heap.size w (w1.setCell ⟨w.heap.size, k, none⟩ x) := (bvia hB hb).setCell (Nat.le_refl _) _
      have hxd : Dis x (.slice (some ⟨w.heap.size, 0, none⟩) zss.length zss.length) := (dis_lt (fun q hq => by simp [Value.ownBlock] at hq; omega) (fun q hq => (ox.lt q hq).1)).symm
      have hdall : ∀ y ∈ us, Dis y x := fun y hy => dis_lt (fun q hq => (OwII.block_lt hrows hy q hq).2) (fun q hq => (ox.lt q hq).1)
      have hr2 := ((hrows.below hb).kept (x := .slice (some ⟨w.heap.size, 0, none⟩) zss.length zss.length) hst.2 hrows.2.2.1).snoc ((ox.kept hst.2 hxd).base hB.size) hxd hdall
      have hset : (us ++ rs).set k x = (us ++ [x]) ++ rs.drop 1 := by
        rw [List.set_append_right _ _ (by omega), hul, Nat.sub_self]
        cases rs with
        | nil => simp at hrl; omega
        | cons y r => simp
      have H2 : Hid (∃ us rs, us.length = k + 1 ∧ (w1.setCell ⟨w.heap.size, k, none⟩ x).ownsRow w.heap.size 32 1 (.slice (some ⟨w.heap.size, 0, none⟩) zss.length zss.length) zss.length (us ++ rs) ∧ OwRows (w1.setCell ⟨w.heap.size, k, none⟩ x) w.heap.size (.slice (some ⟨w.heap.size, 0, none⟩) zss.length zss.length) us (zss.take (k + 1))) :=
        ⟨us ++ [x], rs.drop 1, by simp [hul], by rw [← hset]; exact hst.1, by rw [ht]; exact hr2⟩
      clear hset hr2 hdall hxd hst hrows ho ox
      subst hxx
      go_wp2
      exact ⟨⟨k + 1, by omega, by go_num, H2, hB2⟩, by simp [intOf]; omega⟩
    · go_wp2
      go_ret
      obtain ⟨us, rs, hul, ho, hrows⟩ := HI.out
      obtain rfl : k = zss.length := by omega
      rw [List.take_length] at hrows
      have hrs : rs = [] := by
        have := ho.1
        simp at this
        exact List.eq_nil_of_length_eq_zero (by omega)
      subst hrs
      rw [List.append_nil] at ho
      exact ⟨_, rfl, ⟨us, ho, hrows⟩, hB⟩
theorem eqIntSS_any (zss : LL) (v u : Value) (w : World) (h : RdII w v zss) (h' : RdII w u zss) :
    Calls Try.prog 26 #[v, u] w fun e w' => e = .returned (.bool true) ∧ Dr w w' := by
  obtain ⟨ad, cap, bl, off, rfl, hcap, hmax, had, hc⟩ := h.open
  obtain ⟨ad', cap', bl', off', rfl, hcap', hmax', had', hc'⟩ := h'.open
  have HC := Lib.hid hc
  have HC' := Lib.hid hc'
  clear h hc h' hc'
  go_enter Try.func26, Try.ntmps26
  go_wp2
  go_loopw [5] (fun i wr => ∃ k : Nat, k ≤ zss.length ∧ i = .int .i64 k ∧ Dr w wr) (fun i _ => zss.length - (intOf i).toNat)
  case atStart => exact ⟨0, Nat.zero_le _, rfl, Dr.refl _⟩
  case round =>
    obtain ⟨k, hk, rfl, hD⟩ := hrel
    by_cases hlt : k < zss.length
    · obtain rfl := had (by omega)
      obtain rfl := had' (by omega)
      obtain ⟨zs, hz, _, _, _⟩ := getSS hlt
      obtain ⟨x, hcx, hx⟩ := HC.out k zs hz
      obtain ⟨y, hcy, hy⟩ := HC'.out k zs hz
      obtain ⟨ax, cx, rfl⟩ := hx.shape
      obtain ⟨ay, cy, rfl⟩ := hy.shape
      replace hcx := hD.cell hcx
      replace hcy := hD.cell hcy
      replace hx := hx.dr hD
      replace hy := hy.dr hD
      clear hz
      have q1 : (k : Int) < (zss.length : Int) := by omega
      go_wp2
      go_quiet ((go_at_call 51; exact Dr.quiet (eqIntS_any zs _ _ _ (hx.drewN _) (hy.drewN _))))
      go_wp2
      exact ⟨⟨k + 1, by omega, by go_num, hD.next _⟩, by simp [intOf]; omega⟩
    · go_wp2
      go_ret
      exact ⟨rfl, hD⟩
/-- Rows of numbers in turn. -/
def marksSS (q : Int) : LL → LL
  | [] => []
  | zs :: r => marks q zs.length :: marksSS (q + zs.length) r
theorem marksSS_append (q : Int) (a b : LL) : marksSS q (a ++ b) = marksSS q a ++ marksSS (q + totL a) b := by
  induction a generalizing q with
  | nil => simp [marksSS, totL]
  | cons y r ih =>
    simp only [List.cons_append, marksSS, ih, totL]
    congr 3
    omega
theorem marksSS_length (q : Int) (a : LL) : (marksSS q a).length = a.length := by
  induction a generalizing q with
  | nil => rfl
  | cons y r ih => simp [marksSS, ih]
theorem marksSS_get (q : Int) (a : LL) (k : Nat) : (marksSS q a)[k]? = (a[k]?).map fun zs => marks (q + totL (a.take k)) zs.length := by
  induction a generalizing q k with
  | nil => simp [marksSS]
  | cons y r ih =>
    cases k with
    | zero => simp [marksSS, totL]
    | succ k =>
      simp only [marksSS, List.getElem?_cons_succ, ih, List.take_succ_cons, totL]
      congr
      funext zs
      congr 1
      omega
theorem markIntSS_any (zss : LL) (q : Int) (hq : 0 ≤ q) (hn : zss.length ≤ 1048576) (hq2 : q + totL zss ≤ 1099511627776) (B : Nat) (v : Value) (w : World) (h : OwII w B v zss) :
    Calls Try.prog 36 #[v, .int .i64 q] w fun e w' => e = .returned (.int .i64 (q + totL zss)) ∧ OwII w' B v (marksSS q zss) ∧ (B ≤ w.heap.size → Below B w w') := by
  have hsl : (v = .slice none 0 0 ∧ zss = []) ∨ ∃ g cap, v = .slice (some ⟨g, 0, none⟩) zss.length cap ∧ zss.length ≤ cap ∧ cap ≤ 9223372036854775807 := by
    obtain ⟨us, h1, h2⟩ := h
    rcases h1.2 with ⟨rfl, h0⟩ | ⟨g, cap, cur, rfl, hg, hh, hn, hm, _⟩
    · exact .inl ⟨rfl, List.eq_nil_of_length_eq_zero h0⟩
    · exact .inr ⟨g, cap, rfl, hn, by rw [maxLen_eq] at hm; exact hm⟩
  rcases hsl with ⟨rfl, rfl⟩ | ⟨g, cap, rfl, hcap, hmax⟩
  · go_enter Try.func36, Try.ntmps36
    go_wp2
    go_rounds 1
    go_ret
    exact ⟨ret_int (by simp [totL]), h, fun _ => Below.refl _ _⟩
  · have HO := Lib.hid h
    clear h
    go_enter Try.func36, Try.ntmps36
    go_wp2
    go_loopw [1, 5] (fun p i wr => ∃ k : Nat, k ≤ zss.length ∧ i = .int .i64 k ∧ p = .int .i64 (q + totL (zss.take k)) ∧ Hid (OwII wr B (.slice (some ⟨g, 0, none⟩) zss.length cap) (marksSS q (zss.take k) ++ zss.drop k)) ∧ Hid (Below B w wr)) (fun _ i _ => zss.length - (intOf i).toNat)
    case atStart => exact ⟨0, Nat.zero_le _, rfl, by simp [totL], by show OwII _ _ _ _; simpa [marksSS] using HO.out, Below.refl _ _⟩
    case round =>
      obtain ⟨k, hk, rfl, rfl, HI, HB⟩ := hrel
      by_cases hlt : k < zss.length
      · obtain ⟨zs, hz, hm, hd, ht⟩ := getSS hlt
        have hll : (marksSS q (zss.take k) ++ zss.drop k).length = zss.length := by rw [List.length_append, marksSS_length, List.length_take, List.length_drop]; omega
        have hget : (marksSS q (zss.take k) ++ zss.drop k)[k]? = some zs := by
          rw [List.getElem?_append_right (by rw [marksSS_length, List.length_take]; omega), marksSS_length, List.length_take, Nat.min_eq_left hk, Nat.sub_self, hd]
          rfl
        have ho := HI.out
        rw [← hll] at ho
        obtain ⟨u, hck, hou, hset⟩ := ho.at hget
        rw [hll] at hset
        have ht1 : totL (zss.take (k + 1)) = totL (zss.take k) + zs.length := by rw [ht, totL_append]; simp [totL]
        have ht2 : totL zss = totL (zss.take (k + 1)) + totL (zss.drop (k + 1)) := by rw [← totL_append, List.take_append_drop]
        have hl2 : (marksSS q (zss.take k) ++ zss.drop k).set k (marks (q + totL (zss.take k)) zs.length) = marksSS q (zss.take (k + 1)) ++ zss.drop (k + 1) := by
          rw [List.set_append_right _ _ (by rw [marksSS_length, List.length_take]; omega), marksSS_length, List.length_take, Nat.min_eq_left hk, Nat.sub_self, hd, ht, marksSS_append, List.set_cons_zero, List.append_assoc]
          rfl
        have hset2 : ∀ w1, OwI w1 B u (marks (q + totL (zss.take k)) zs.length) → wr.grownBy w1 u.ownBlock → OwII w1 B (.slice (some ⟨g, 0, none⟩) zss.length cap) (marksSS q (zss.take (k + 1)) ++ zss.drop (k + 1)) ∧ Below B wr w1 := fun w1 a b => by have := hset w1 _ a b; rw [hl2] at this; exact this
        have HS := Lib.hid hset2
        clear hset2 hset hl2 ho hget hll hm hd ht hz HI
        go_wp2_with (fail)
        refine (markIntS_any zs _ (by omega) (by omega) B _ _ hou).mono ?_
        rintro e w1 ⟨rfl, om, hg⟩
        have H2 := HS.out w1 om hg
        clear om hg hou HS
        have H3 := Lib.hid H2.1
        have HB2 := Lib.hid (HB.out.trans H2.2)
        clear H2
        go_wp2
        exact ⟨⟨k + 1, by omega, by go_num, by rw [ht1]; go_num, H3, HB2⟩, by simp [intOf]; omega⟩
      · go_wp2
        go_ret
        obtain rfl : k = zss.length := by omega
        have ho := HI.out
        rw [List.take_length, List.drop_length, List.append_nil] at ho
        refine ⟨by rw [List.take_length]; rfl, ?_, fun _ => HB.out⟩
        exact ho
theorem heldIntSS_any (zss : LL) (q : Int) (hq : 0 ≤ q) (hn : zss.length ≤ 1048576) (hq2 : q + totL zss ≤ 1099511627776) (v : Value) (w : World) (h : RdII w v (marksSS q zss)) :
    Calls Try.prog 37 #[v, .int .i64 q] w fun e w' => e = .returned (.int .i64 (q + totL zss)) ∧ w = w' := by
  obtain ⟨ad, cap, bl, off, rfl, hcap, hmax, had, hc⟩ := h.open
  rw [marksSS_length] at had hcap
  rw [marksSS_length]
  have HC := Lib.hid hc
  clear h hc
  go_enter Try.func37, Try.ntmps37
  go_wp2
  go_loop [1, 5] (fun p i => ∃ k : Nat, k ≤ zss.length ∧ i = .int .i64 k ∧ p = .int .i64 (q + totL (zss.take k))) (fun _ i => zss.length - (intOf i).toNat)
  case atStart => exact ⟨0, Nat.zero_le _, rfl, by simp [totL]⟩
  case round =>
    obtain ⟨k, hk, rfl, rfl⟩ := hrel
    by_cases hlt : k < zss.length
    · obtain rfl := had (by omega)
      obtain ⟨zs, hz, hm, hd, ht⟩ := getSS hlt
      obtain ⟨u, hck, hu⟩ := HC.out k _ (by rw [marksSS_get, hz]; rfl)
      have ht1 : totL (zss.take (k + 1)) = totL (zss.take k) + zs.length := by rw [ht, totL_append]; simp [totL]
      have ht2 : totL zss = totL (zss.take (k + 1)) + totL (zss.drop (k + 1)) := by rw [← totL_append, List.take_append_drop]
      clear hm hd ht hz
      go_wp2_with (fail)
      refine (heldIntS_any zs.length _ (by omega) (by omega) _ _ hu).mono ?_
      rintro e w1 ⟨rfl, rfl⟩
      go_wp2
      exact ⟨⟨k + 1, by omega, by go_num, by rw [ht1]; go_num⟩, by simp [intOf]; omega⟩
    · go_wp2
      go_ret
      obtain rfl : k = zss.length := by omega
      exact ⟨by rw [List.take_length]; rfl, rfl⟩
end Go.Proofs.Ytcpkbohopicabaa
