/- ReadScene of the program: the walk. -/
import Derived.Test.YtkkcglncjdoacaaDoorRdSP
namespace Go.Proofs.YtkkcglncjdoacaaDoor
open Go.ChangeShapes Go.WideShapes Go.ChangeAt Go.RowKit Go.Joins Go.Deep Go.Sort
set_option linter.unusedSimpArgs false
set_option linter.unusedVariables false
set_option maxRecDepth 20000

set_option maxHeartbeats 1000000 in
theorem implReadScene_any (s : ByteArray) (hs : s.size ≤ 1048576) (w : World) (ht : Pow10 w) (he : HasErr w) (hm : HasMax w) :
    Calls Tryd.prog 30 #[.string s] w fun e w' => ∃ u, e = .returned (.tuple #[u, .bool (rsB s.data.toList)]) ∧ OwCD w' w.heap.size w'.heap.size u (rsV s.data.toList) ∧ Below w.heap.size w w' := by
  have ho0 := OwCD.empty w
  have hb0 := below_alloc1 w (.cells #[] 31)
  have hsz : s.data.toList.length = s.size := (Lib.size_eq s).symm
  obtain ⟨mx, hmx⟩ := hm
  have HM := Lib.hid (cell_on hb0 hmx)
  have HT := Lib.hid (And.intro ht (And.intro he (Exists.intro mx hmx : HasMax w)))
  clear ht he hmx
  have hsp := Lib.hid (fun w' h => split_any s 59 mx w' (by omega) h)
  have HO := Lib.hid (And.intro ho0 hb0)
  clear ho0 hb0
  go_enter Tryd.func30, Tryd.ntmps30
  go_wp2_with (fail)
  generalize hw1 : w.alloc (.cells #[] 31) = w1 at HO HM ⊢
  refine (hsp.out _ HM.out).mono ?_
  rintro e w2 ⟨up, xs, rfl, op, hxs, hb⟩
  obtain ⟨ho, hB⟩ := HO.out
  have hs1 : w1.heap.size = w.heap.size + 1 := by rw [← hw1]; simp
  clear HO hsp hw1 HM
  have hpl := pieces_pos hxs
  have hpx := pieces_le hxs
  have hopl := op.lt
  obtain ⟨gp, cp, rfl, hgp, hcp, hmp, hcell⟩ := op.full hpl
  have hgl : w1.heap.size ≤ gp := (hopl gp rfl).1
  replace ho := ho.below hb
  replace hB := bvia hB hb
  replace ho := ho.up (show w.heap.size + 1 ≤ w2.heap.size by have := hb.size; omega)
  have HXS := Lib.hid hxs
  have HC := Lib.hid hcell
  have hoff : Off (.slice (some ⟨w.heap.size, 0, none⟩) 0 0) gp := by
    unfold Off
    simp [Value.ownBlock]
    omega
  clear hb op hopl hcell hxs
  go_wp2_with (fail)
  go_loopw [4, 13] (fun u i wr => ∃ (k : Nat) (ns : List CueV), k ≤ xs.length ∧ i = .int .i64 k ∧ OwCD wr w.heap.size wr.heap.size u ns ∧ Off u gp ∧ gp < wr.heap.size ∧ Below w.heap.size w wr ∧ Hid (∀ (j : Nat) x, xs[j]? = some x → wr.cell? ⟨gp, j, none⟩ = some (.string x)) ∧ Hid (AllCK xs k ns)) (fun _ i _ => xs.length - (intOf i).toNat)
  case atStart => exact ⟨0, [], Nat.zero_le _, rfl, ho, hoff, hgp, hB, HC.out, by show _ = _; simp [allC]⟩
  case round =>
   focus
    clear ho hoff hB HC hgp
    obtain ⟨k, ns, hk, rfl, ho, hoff, hgp, hB, HC, H⟩ := hrel
    have hnl := H.out.len
    by_cases hlt : k < xs.length
    · obtain ⟨x, hx⟩ : ∃ x, xs[k]? = some x := ⟨_, List.getElem?_eq_getElem hlt⟩
      have hck := HC.out k x hx
      have qk : (k : Int) < (xs.length : Int) := by omega
      have hxz : x.size ≤ s.size := piece_sz HXS.out hx
      have HP := Lib.hid (fun w' h1 h2 h3 => implReadCue_any x (by omega) w' h1 h2 h3)
      cases hp : rcF x.data.toList with
      | none =>
        rw [(rc_none hp).2] at HP
        have HR := Lib.hid (rs_none (l := s.data.toList) (rsF_no (by rw [← HXS.out]; exact allc_no hx hp)))
        generalize rcV x.data.toList = cv at HP
        clear H hx hnl hxz hp
        go_wp2_with (fail)
        refine (HP.out _ (tabIs_below HT.out.1 hB) (HasErr.below HT.out.2.1 hB) (HasMax.below HT.out.2.2 hB)).mono ?_
        rintro e w4 ⟨u1, u2, rfl, o1, o2, _, hb⟩
        replace hB := bvia hB hb
        obtain ⟨a1, y1, rfl⟩ := o1.rd.shape
        obtain ⟨a2, y2, rfl⟩ := o2.rd.shape
        have hal := below_alloc1 w4 (.cells #[.int .i64 cv.1, .slice a1 cv.2.1.length y1, .slice a2 cv.2.2.length y2] 31)
        have HQ := Lib.hid (bvia hB hal)
        clear hb hB ho hal o1 o2
        go_wp2_with (fail)
        go_ret2
        exact ⟨_, ret_pairV HR.out.2.symm, by rw [HR.out.1]; exact OwCD.nil _ _ _, HQ.out⟩
      | some z =>
        rw [(rc_some hp).1, (rc_some hp).2] at HP
        have HN := Lib.hid (H.out.next hx hp)
        obtain ⟨t, A, P⟩ := z
        dsimp only at HP
        clear H hx hxz hp
        go_wp2_with (fail)
        refine (HP.out _ (tabIs_below HT.out.1 hB) (HasErr.below HT.out.2.1 hB) (HasMax.below HT.out.2.2 hB)).mono ?_
        rintro e w4 ⟨u1, u2, rfl, o1, o2, d12, hb⟩
        have hwr := hB.size
        replace hB := bvia hB hb
        replace ho := ho.below hb
        have hgp4 : gp < w4.heap.size := Nat.lt_of_lt_of_le hgp hb.size
        have hT4 := hb.size
        have HC4 : Hid (∀ (j : Nat) x, xs[j]? = some x → w4.cell? ⟨gp, j, none⟩ = some (.string x)) := fun j x hx => cell_on hb (HC.out j x hx)
        have n1 : ∀ q, u1.ownBlock = some q → wr.heap.size ≤ q := fun q hq => (o1.lt q hq).1
        have n2 : ∀ q, u2.ownBlock = some q → wr.heap.size ≤ q := fun q hq => (o2.lt q hq).1
        replace o1 := o1.base hwr
        replace o2 := o2.base hwr
        obtain ⟨a1, y1, rfl⟩ := o1.rd.shape
        obtain ⟨a2, y2, rfl⟩ := o2.rd.shape
        have hal := below_alloc1 w4 (.cells #[.int .i64 t, .slice a1 A.length y1, .slice a2 P.length y2] 31)
        replace hB := bvia hB hal
        replace ho := ho.below hal
        replace o1 := o1.below hal
        replace o2 := o2.below hal
        have HC5 : Hid (∀ (j : Nat) x, xs[j]? = some x → (w4.alloc (.cells #[.int .i64 t, .slice a1 A.length y1, .slice a2 P.length y2] 31)).cell? ⟨gp, j, none⟩ = some (.string x)) := fun j x hx => cell_on hal (HC4.out j x hx)
        have hsa : (w4.alloc (.cells #[.int .i64 t, .slice a1 A.length y1, .slice a2 P.length y2] 31)).heap.size = w4.heap.size + 1 := by simp
        have hg5 : gp < (w4.alloc (.cells #[.int .i64 t, .slice a1 A.length y1, .slice a2 P.length y2] 31)).heap.size := by omega
        have hw5 := hB.size
        have hT5 : wr.heap.size ≤ (w4.alloc (.cells #[.int .i64 t, .slice a1 A.length y1, .slice a2 P.length y2] 31)).heap.size := by omega
        clear hb HC hck hal HC4 hgp4 hT4 hwr
        go_wp2_with (at_builtin; refine wpList_pushCD rfl (.tmp 24) (.tmp 26) rfl _ (t, A, P) _ _ w.heap.size wr.heap.size _ ns rfl ho (by rw [hsa]; rfl) o1 n1 o2 n2 d12 (by omega) hw5 hT5 ?_; intro v7 w7 o7 hg7 hn7; have hB7 := below_grown hB hg7 (fun q hq => (World.ownsRow.lt ho.2.choose_spec.1 q hq).1) (Nat.le_refl _); have HC7 : Hid (∀ (j : Nat) x, xs[j]? = some x → w7.cell? ⟨gp, j, none⟩ = some (.string x)) := (fun j x hx => hg7.cell (HC5.out j x hx) (fun e => hoff e.symm)); have hoff7 := hoff.next hg5 hn7; have hgp7 := Nat.lt_of_lt_of_le hg5 hg7.size)
        exact ⟨⟨k + 1, ns ++ [(t, A, P)], by omega, by go_num, o7, hoff7, hgp7, hB7, HC7.out, HN.out⟩, by simp [intOf]; omega⟩
    · have hall : allC (splitP 59 s.data.toList) = some ns := by
        have h := H.out
        unfold AllCK at h
        rw [List.take_of_length_le (by omega), HXS.out] at h
        exact h
      have HOK := Lib.hid (fun v' w' h => implCuesOk_any ns v' w' h)
      cases hok : cuesB ns with
      | false =>
        rw [hok] at HOK
        have HR := Lib.hid (rs_none (rsF_bad hall hok))
        clear H hall hnl HC
        obtain ⟨au, cu, rfl, _⟩ := ho.rd.shape
        go_wp2_with (fail)
        refine (HOK.out _ _ ho.rd).mono ?_
        rintro e w4 ⟨rfl, hb⟩
        replace hB := bvia hB hb
        clear hb ho
        go_wp2_with (fail)
        go_ret2
        exact ⟨_, ret_pairV HR.out.2.symm, by rw [HR.out.1]; exact OwCD.nil _ _ _, hB⟩
      | true =>
        rw [hok] at HOK
        have HR := Lib.hid (rs_some (rsF_ok hall hok))
        clear H hall hnl HC
        obtain ⟨au, cu, rfl, _⟩ := ho.rd.shape
        go_wp2_with (fail)
        refine (HOK.out _ _ ho.rd).mono ?_
        rintro e w4 ⟨rfl, hb⟩
        replace hB := bvia hB hb
        replace ho := (ho.below hb).up hb.size
        clear hb
        go_wp2_with (fail)
        go_ret2
        exact ⟨_, ret_pairV HR.out.2.symm, by rw [HR.out.1]; exact ho, hB⟩
end Go.Proofs.YtkkcglncjdoacaaDoor
