/- The walks of SceneText: the texts of cues with semicolons between them. -/
import Derived.Test.YtkkcglncjdoacaaDoorCueText
import Derived.Test.YtkkcglncjdoacaaDoorCuesOk
namespace Go.Proofs.YtkkcglncjdoacaaDoor
open Go.ChangeShapes Go.WideShapes Go.ChangeAt Go.RowKit Go.Joins Go.Deep Go.Sort
set_option linter.unusedSimpArgs false
set_option linter.unusedVariables false
set_option maxRecDepth 20000

def cueT (z : CueV) : List UInt8 := cueL z.1 z.2.1 z.2.2
def sceneL (zs : List CueV) : List UInt8 := if cuesB zs = true then Lib.join (zs.map cueT) [59] else []
theorem numsL_len {zs : List Int} (hz : ∀ z ∈ zs, -9223372036854775808 ≤ z ∧ z ≤ 9223372036854775807) : (numsL zs).length ≤ 440 := by
  by_cases h : numsOk zs = true
  · have h2 := h
    unfold numsOk at h2
    rw [Bool.and_eq_true] at h2
    have hl := of_decide_eq_true h2.1
    have h0 : ∀ z ∈ zs, 0 ≤ z := fun z hzm => of_decide_eq_true (List.all_eq_true.1 h2.2 z hzm)
    rw [numsL_ok hl h0]
    cases zs with
    | nil => simp [Lib.join_nil]
    | cons z r =>
      have h1 := lens_le (z :: r) hz
      rw [List.map_cons, Lib.join_length]
      simp only [List.length_cons, List.length_nil, List.length_map, List.map_cons] at hl h1 ⊢
      omega
  · unfold numsL
    rw [if_neg h]
    simp
theorem cueT_len (z : CueV) : (cueT z).length ≤ 1000 := by
  unfold cueT cueL
  split
  · rename_i h
    unfold cueOk at h
    rw [Bool.and_eq_true, Bool.and_eq_true] at h
    have h1 := inB_true.1 h.1.1
    have h2 := numsL_len (rises_bd (by omega) h.1.2)
    have h3 := numsL_len (rises_bd (by omega) h.2)
    have h4 := Lib.itoa_length_le z.1 (by omega) (by omega)
    simp only [List.length_append, List.length_cons, List.length_nil]
    omega
  · simp
/-- The text of the first k. -/
structure JoinK (xs : List (List UInt8)) (k : Nat) (t : ByteArray) : Prop where
  txt : t.data.toList = Lib.join (xs.take k) [59]
  sz : t.size ≤ 1001 * k
theorem JoinK.next {xs : List (List UInt8)} {k : Nat} {t t' : ByteArray} {y : List UInt8} (h : JoinK xs k t) (hx : xs[k]? = some y) (hy : y.length ≤ 1000)
    (ht : t'.data.toList = (if k = 0 then t.data.toList else t.data.toList ++ [59]) ++ y) : JoinK xs (k + 1) t' := by
  have hk := (List.getElem?_eq_some_iff.1 hx).1
  have htk : xs.take (k + 1) = xs.take k ++ [y] := by
    rw [List.take_succ_eq_append_getElem hk]
    congr 1
    simp [(List.getElem?_eq_some_iff.1 hx).2]
  have hz : (xs.take k = []) ↔ k = 0 := by
    rw [List.take_eq_nil_iff]
    constructor
    · rintro (h | h)
      · exact h
      · rw [h] at hk
        simp at hk
    · exact fun h => .inl h
  refine ⟨?_, ?_⟩
  · rw [htk, join_snoc, ht, h.txt]
    by_cases h0 : k = 0
    · rw [if_pos h0, if_pos (hz.2 h0)]
      subst h0
      simp [Lib.join_nil]
    · rw [if_neg h0, if_neg (fun e => h0 (hz.1 e))]
  · have h2 := h.sz
    rw [Lib.size_eq] at h2 ⊢
    rw [ht]
    split <;> simp only [List.length_append, List.length_cons, List.length_nil] <;> omega
theorem cuesB_len {zs : List CueV} (h : cuesB zs = true) : 1 ≤ zs.length ∧ zs.length ≤ 12 := by
  unfold cuesB at h
  rw [Bool.and_eq_true, Bool.and_eq_true] at h
  have := inB_true.1 h.1.1
  omega
theorem lens_cue (zs : List CueV) : Lib.lens (zs.map cueT) ≤ 1000 * zs.length := by
  induction zs with
  | nil => simp [Lib.lens]
  | cons z r ih =>
    have h1 := cueT_len z
    simp only [List.map_cons, Lib.lens, List.sum_cons, List.length_cons] at ih ⊢
    omega
theorem join_cue {zs : List CueV} (hl : zs.length ≤ 12) : (Lib.join (zs.map cueT) [59]).length ≤ 140737488355328 := by
  cases zs with
  | nil => simp [Lib.join_nil]
  | cons z r =>
    have h1 := lens_cue (z :: r)
    rw [List.map_cons, Lib.join_length]
    simp only [List.length_cons, List.length_nil, List.length_map, List.map_cons] at hl h1 ⊢
    omega

theorem specSceneText_any (zs : List CueV) (v : Value) (w : World) (h : RdCue w v zs) (ht : Pow10 w) :
    Calls Tryd.prog 20 #[v] w fun e w' => e = .returned (.string ⟨(sceneL zs).toArray⟩) ∧ Below w.heap.size w w' := by
  have HR := Lib.hid h
  have HT := Lib.hid ht
  obtain ⟨ad, cap, bl, off, rfl, hcap, hmax, had, hc⟩ := h
  have HC := Lib.hid hc
  clear hc ht
  have hb0 := Below.refl w.heap.size w
  cases hok : cuesB zs with
  | false =>
    have HE := Lib.hid (show sceneL zs = [] from if_neg (by simp [hok]))
    go_enter Tryd.func20, Tryd.ntmps20
    go_wp2_with (fail)
    go_loopw [3, 4] (fun s i wr => s = .string ⟨#[]⟩ ∧ i = .int .i64 0 ∧ Below w.heap.size w wr) (fun _ i _ => (1 - intOf i).toNat)
    case atStart => exact ⟨rfl, rfl, hb0⟩
    case round =>
      clear hb0
      obtain ⟨rfl, rfl, hB⟩ := hrel
      by_cases h0 : 0 < zs.length
      · have h0' : (0 : Int) < (zs.length : Int) := by omega
        obtain rfl := had h0
        clear had
        go_wp2_with (fail)
        refine (specCuesOk_any zs _ _ (HR.out.below hB)).mono ?_
        rintro e w2 ⟨rfl, hb⟩
        replace hB := bvia hB hb
        clear hb
        rw [hok]
        go_wp2_with (fail)
        go_ret
        exact ⟨ret_str (by rw [HE.out]), hB⟩
      · have h0' : ¬ (0 : Int) < (zs.length : Int) := by omega
        go_wp2_with (fail)
        go_ret
        exact ⟨ret_str (by rw [HE.out]), hB⟩
  | true =>
    obtain ⟨hl1, hl2⟩ := cuesB_len hok
    have HE := Lib.hid (show sceneL zs = Lib.join (zs.map cueT) [59] from if_pos hok)
    obtain rfl := had (by omega)
    go_enter Tryd.func20, Tryd.ntmps20
    go_wp2_with (fail)
    go_loopw [3, 4] (fun s i wr => ∃ (k : Nat) (t : ByteArray), k ≤ zs.length ∧ s = .string t ∧ i = .int .i64 k ∧ Below w.heap.size w wr ∧ Hid (JoinK (zs.map cueT) k t)) (fun _ i _ => zs.length - (intOf i).toNat)
    case atStart => exact ⟨0, ⟨#[]⟩, Nat.zero_le _, rfl, rfl, hb0, ⟨by simp [Lib.join_nil], by decide⟩⟩
    case round =>
      clear hb0
      obtain ⟨k, t, hk, rfl, rfl, hB, H⟩ := hrel
      by_cases hlt : k < zs.length
      · obtain ⟨⟨tt, a, p⟩, hz⟩ : ∃ z, zs[k]? = some z := ⟨_, List.getElem?_eq_getElem hlt⟩
        obtain ⟨u1, u2, q0, q1, q2, r1, r2⟩ := HC.out k _ hz
        dsimp only at q0 r1 r2
        obtain ⟨b1, d1, rfl⟩ := r1.shape
        obtain ⟨b2, d2, rfl⟩ := r2.shape
        have qk : (k : Int) < (zs.length : Int) := by omega
        have hsz := H.out.sz
        obtain ⟨f, hf⟩ : ∃ f : ByteArray, (⟨(cueL tt a p).toArray⟩ : ByteArray) = f := ⟨_, rfl⟩
        have hfl : f.data.toList = cueT (tt, a, p) := by rw [← hf]; rfl
        have hfs : f.size ≤ 1000 := by rw [Lib.size_eq, hfl]; exact cueT_len _
        have HF := Lib.hid (fun w' h1 h2 h => specCueText_any tt a p (.slice b1 a.length d1) (.slice b2 p.length d2) w' h1 h2 h)
        rw [hf] at HF
        have hzm : (zs.map cueT)[k]? = some (cueT (tt, a, p)) := by rw [List.getElem?_map, hz]; rfl
        have HX := Lib.hid (And.intro hfl hzm)
        clear hf hfl hzm hz
        by_cases hk0 : k = 0
        · subst hk0
          have HN : Hid (JoinK (zs.map cueT) (0 + 1) (t ++ f)) := H.out.next HX.out.2 (cueT_len _) (by rw [data_add, HX.out.1]; rfl)
          have hs1 : ¬ 9223372036854775807 < t.size + f.size := by omega
          have h0' : (0 : Int) < (zs.length : Int) := by omega
          go_wp2_with (fail)
          refine (specCuesOk_any zs _ _ (HR.out.below hB)).mono ?_
          rintro e w2 ⟨rfl, hb⟩
          replace hB := bvia hB hb
          clear hb
          rw [hok]
          have c0 := cell_on hB q0
          have c1 := cell_on hB q1
          have c2 := cell_on hB q2
          simp only [Nat.zero_mul, Nat.add_zero] at c0 c1 c2
          go_wp2_with (fail)
          refine (HF.out _ (r1.below hB) (r2.below hB) (tabIs_below HT.out hB)).mono ?_
          rintro e w6 ⟨rfl, hb⟩
          replace hB := bvia hB hb
          clear hb
          go_wp2_with (fail)
          exact ⟨⟨1, _, by omega, rfl, by go_num, hB, HN.out⟩, by simp [intOf]; omega⟩
        · have HN : Hid (JoinK (zs.map cueT) (k + 1) ((t ++ ⟨#[59]⟩) ++ f)) := H.out.next HX.out.2 (cueT_len _) (by rw [data_add, data_add, HX.out.1, if_neg hk0])
          have hk0' : (0 : Int) < (k : Int) := by omega
          have hs1 : ¬ 9223372036854775807 < t.size + 1 + f.size := by omega
          have hs2 : ¬ 9223372036854775807 < t.size + 1 := by omega
          go_wp2_with (fail)
          refine (specCuesOk_any zs _ _ (HR.out.below hB)).mono ?_
          rintro e w2 ⟨rfl, hb⟩
          replace hB := bvia hB hb
          clear hb
          rw [hok]
          have c0 := cell_on hB q0
          have c1 := cell_on hB q1
          have c2 := cell_on hB q2
          go_wp2_with (fail)
          refine (HF.out _ (r1.below hB) (r2.below hB) (tabIs_below HT.out hB)).mono ?_
          rintro e w6 ⟨rfl, hb⟩
          replace hB := bvia hB hb
          clear hb
          go_wp2_with (fail)
          exact ⟨⟨k + 1, _, by omega, rfl, by go_num, hB, HN.out⟩, by simp [intOf]; omega⟩
      · have htt : t = ⟨(sceneL zs).toArray⟩ := str_of (by rw [HE.out, H.out.txt, List.take_of_length_le (by simp; omega)])
        subst htt
        go_wp2_with (fail)
        go_ret
        exact ⟨rfl, hB⟩
theorem implSceneText_any (zs : List CueV) (v : Value) (w : World) (h : RdCue w v zs) (ht : Pow10 w) :
    Calls Tryd.prog 22 #[v] w fun e w' => e = .returned (.string ⟨(sceneL zs).toArray⟩) ∧ Below w.heap.size w w' := by
  have HR := Lib.hid h
  have HT := Lib.hid ht
  obtain ⟨ad, cap, bl, off, rfl, hcap, hmax, had, hc⟩ := h
  have HC := Lib.hid hc
  clear hc ht
  go_enter Tryd.func22, Tryd.ntmps22
  go_wp2_with (fail)
  refine (implCuesOk_any zs _ _ HR.out).mono ?_
  rintro e w1 ⟨rfl, hB⟩
  cases hok : cuesB zs with
  | false =>
    have HE := Lib.hid (show sceneL zs = [] from if_neg (by simp [hok]))
    go_wp2_with (fail)
    go_ret
    exact ⟨ret_str (by rw [HE.out]), hB⟩
  | true =>
    obtain ⟨hl1, hl2⟩ := cuesB_len hok
    have HE := Lib.hid (show sceneL zs = Lib.join (zs.map cueT) [59] from if_pos hok)
    obtain rfl := had (by omega)
    have hs1 := hB.size
    have he0 := OwStr.empty w1 w.heap.size hs1
    have hb1 := bvia hB (below_alloc1 w1 (.cells #[] 9))
    clear hB hs1
    go_wp2_with (fail)
    go_loopw [3, 12] (fun u i wr => ∃ (k : Nat) (xs : List ByteArray), k ≤ zs.length ∧ i = .int .i64 k ∧ OwStr wr w.heap.size u xs ∧ Below w.heap.size w wr ∧ Hid (xs.map (·.data.toList) = (zs.take k).map cueT)) (fun _ i _ => zs.length - (intOf i).toNat)
    case atStart => exact ⟨0, [], Nat.zero_le _, rfl, he0, hb1, by show _ = _; simp⟩
    case round =>
      clear hb1 he0
      obtain ⟨k, xs, hk, rfl, ho, hB, H⟩ := hrel
      have hxl : xs.length = k := by
        have := congrArg List.length H.out
        simp only [List.length_map, List.length_take] at this
        omega
      by_cases hlt : k < zs.length
      · obtain ⟨⟨tt, a, p⟩, hz⟩ : ∃ z, zs[k]? = some z := ⟨_, List.getElem?_eq_getElem hlt⟩
        obtain ⟨u1, u2, q0, q1, q2, r1, r2⟩ := HC.out k _ hz
        dsimp only at q0 r1 r2
        obtain ⟨b1, d1, rfl⟩ := r1.shape
        obtain ⟨b2, d2, rfl⟩ := r2.shape
        have c0 := cell_on hB q0
        have c1 := cell_on hB q1
        have c2 := cell_on hB q2
        have qk : (k : Int) < (zs.length : Int) := by omega
        obtain ⟨f, hf⟩ : ∃ f : ByteArray, (⟨(cueL tt a p).toArray⟩ : ByteArray) = f := ⟨_, rfl⟩
        have hfl : f.data.toList = cueT (tt, a, p) := by rw [← hf]; rfl
        have HF := Lib.hid (fun w' h1 h2 h => implCueText_any tt a p (.slice b1 a.length d1) (.slice b2 p.length d2) w' h1 h2 h)
        rw [hf] at HF
        have HN : Hid ((xs ++ [f]).map (·.data.toList) = (zs.take (k + 1)).map cueT) := by
          show _ = _
          have htk : zs.take (k + 1) = zs.take k ++ [(tt, a, p)] := by
            rw [List.take_succ_eq_append_getElem hlt]
            congr 1
            simp [(List.getElem?_eq_some_iff.1 hz).2]
          rw [htk, List.map_append, List.map_append, H.out, List.map_cons, List.map_nil, List.map_cons, List.map_nil, hfl]
        have hba := below_alloc1 wr (.cells #[.int .i64 tt, .slice b1 a.length d1, .slice b2 p.length d2] 31)
        have HA := Lib.hid (And.intro (ho.alloc (.cells #[.int .i64 tt, .slice b1 a.length d1, .slice b2 p.length d2] 31)) (bvia hB hba))
        clear H hf hfl hz ho hB hba
        go_wp2_with (fail)
        generalize wr.alloc (.cells #[.int .i64 tt, .slice b1 a.length d1, .slice b2 p.length d2] 31) = wq at HA ⊢
        obtain ⟨ho, hB⟩ := HA.out
        clear HA c0 c1 c2
        refine (HF.out _ (r1.below hB) (r2.below hB) (tabIs_below HT.out hB)).mono ?_
        rintro e w6 ⟨rfl, hb⟩
        replace hB := bvia hB hb
        replace ho := ho.below hb
        have hwr6 := hB.size
        clear hb
        go_wp2_with (at_builtin; refine wpList_pushS rfl (.tmp 16) (.tmp 19) rfl _ f w.heap.size _ xs rfl ho rfl (by omega) hwr6 ?_; intro v7 w7 o7 hg7 _; have hB7 := ho.grown_below hB (Nat.le_refl _) hg7)
        exact ⟨⟨k + 1, xs ++ [f], by omega, by go_num, o7, hB7, HN.out⟩, by simp [intOf]; omega⟩
      · have h1 := H.out
        rw [List.take_of_length_le (by omega)] at h1
        have hN : sceneL zs = Lib.join (xs.map (·.data.toList)) [59] := by rw [h1, HE.out]
        have hjl : (Lib.join (xs.map (·.data.toList)) [59]).length ≤ 140737488355328 := by
          rw [h1]
          exact join_cue hl2
        have HN := Lib.hid hN
        clear h1 hN H
        rcases ho.open with ⟨rfl, rfl⟩ | ⟨g, cp, rfl, _, hgl, hcp, _, hcl⟩
        · simp at hxl
          omega
        · have HJ := Lib.hid (Tryd.strings_Join g 0 cp xs ⟨#[59]⟩ wr hcl hgl (by omega) hcp hjl)
          clear hcl hxl
          go_wp2_with (fail)
          refine HJ.out.mono ?_
          rintro e w6 ⟨rfl, hb⟩
          go_wp2_with (fail)
          go_ret
          exact ⟨ret_str (by rw [HN.out]), bvia hB hb⟩
end Go.Proofs.YtkkcglncjdoacaaDoor
