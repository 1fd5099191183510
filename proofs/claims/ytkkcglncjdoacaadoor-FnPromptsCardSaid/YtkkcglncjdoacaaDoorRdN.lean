/- ReadNumbers: the plain law and the walks. -/
import Derived.Test.YtkkcglncjdoacaaDoorSp
import Derived.Test.YtkkcglncjdoacaaDoorNums
namespace Go.Proofs.YtkkcglncjdoacaaDoor
open Go.ChangeShapes Go.WideShapes Go.ChangeAt Go.RowKit Go.Joins Go.Deep Go.Sort
set_option linter.unusedSimpArgs false
set_option linter.unusedVariables false
set_option maxRecDepth 20000

/-- The numbers of some pieces; none: some piece is no number. -/
def allF : List (List UInt8) → Option (List Int)
  | [] => some []
  | p :: r => match puF p with
    | some n => (allF r).map ((n : Int) :: ·)
    | none => none
def rdF (l : List UInt8) : Option (List Int) := if l = [] then some [] else if (splitP 44 l).length ≤ 20 then allF (splitP 44 l) else none
theorem allF_append (ps : List (List UInt8)) (p : List UInt8) : allF (ps ++ [p]) = match allF ps, puF p with
    | some ns, some n => some (ns ++ [(n : Int)])
    | _, _ => none := by
  induction ps with
  | nil => simp only [List.nil_append, allF]; cases puF p <;> rfl
  | cons q r ih =>
    rw [List.cons_append]
    unfold allF
    cases hq : puF q with
    | none => rfl
    | some m =>
      simp only
      rw [ih]
      cases allF r with
      | none => cases puF p <;> rfl
      | some ns => cases puF p <;> rfl
theorem allF_none {ps : List (List UInt8)} {p : List UInt8} (hm : p ∈ ps) (h : puF p = none) : allF ps = none := by
  induction ps with
  | nil => simp at hm
  | cons q r ih =>
    unfold allF
    rcases List.mem_cons.1 hm with rfl | hm
    · rw [h]
    · cases puF q with
      | none => rfl
      | some n => rw [ih hm]; rfl
theorem allF_some : ∀ {ps : List (List UInt8)} {ns : List Int}, allF ps = some ns → ns.map Lib.itoa = ps ∧ (∀ p ∈ ps, p.length ≤ 10) ∧ ∀ z ∈ ns, 0 ≤ z ∧ z ≤ 1000000000 := by
  intro ps
  induction ps with
  | nil => intro ns h; cases h; simp
  | cons p r ih =>
    intro ns h
    unfold allF at h
    cases hp : puF p with
    | none => rw [hp] at h; cases h
    | some n =>
      rw [hp] at h
      simp only at h
      cases hr : allF r with
      | none => rw [hr] at h; cases h
      | some ms =>
        rw [hr] at h
        simp only [Option.map_some, Option.some.injEq] at h
        subst h
        obtain ⟨h1, h2, h3⟩ := ih hr
        obtain ⟨g1, g2, g3, g4⟩ := puF_some hp
        refine ⟨?_, fun q hq => ?_, fun z hz => ?_⟩
        · have hi : Lib.itoa (n : Int) = p := by
            unfold Lib.itoa
            rw [if_neg (by omega)]
            simpa using g4
          rw [List.map_cons, h1, hi]
        · rcases List.mem_cons.1 hq with rfl | hq
          · exact g1
          · exact h2 q hq
        · rcases List.mem_cons.1 hz with rfl | hz
          · omega
          · exact h3 z hz
/-- Behind the pieces' numbers: the text that NumbersText makes of them is the text that came in, but for too many. -/
theorem allF_back {l : List UInt8} {ns : List Int} (h : allF (splitP 44 l) = some ns) : ns.length = (splitP 44 l).length ∧ (numsL ns = if (splitP 44 l).length ≤ 20 then l else []) ∧ ∀ z ∈ ns, -9223372036854775808 ≤ z ∧ z ≤ 9223372036854775807 := by
  obtain ⟨h1, _, h3⟩ := allF_some h
  have hl : ns.length = (splitP 44 l).length := by rw [← h1, List.length_map]
  refine ⟨hl, ?_, fun z hz => by have := h3 z hz; omega⟩
  split
  · rename_i h20
    rw [numsL_ok (by omega) (fun z hz => (h3 z hz).1), h1, join_split]
  · rename_i h20
    exact numsL_long (by omega)
theorem sum_le : ∀ {ps : List (List UInt8)}, (∀ p ∈ ps, p.length ≤ 10) → Lib.lens ps ≤ 10 * ps.length := by
  intro ps
  induction ps with
  | nil => intro _; simp [Lib.lens]
  | cons p r ih =>
    intro h
    have h1 := ih fun q hq => h q (by simp [hq])
    have h2 := h p (by simp)
    simp only [Lib.lens, List.map_cons, List.sum_cons, List.length_cons] at h1 ⊢
    omega
theorem rdF_long {l : List UInt8} (h : 400 < l.length) : rdF l = none := by
  unfold rdF
  rw [if_neg (by rintro rfl; simp at h)]
  split
  · rename_i h20
    cases ha : allF (splitP 44 l) with
    | none => rfl
    | some ns =>
      exfalso
      obtain ⟨_, h2, _⟩ := allF_some ha
      have h3 := sum_le h2
      have h4 := join_split 44 l
      have h5 := congrArg List.length h4
      cases hs : splitP 44 l with
      | nil => exact splitP_ne 44 l hs
      | cons x t =>
        rw [hs] at h5 h3 h20
        rw [Lib.join_length] at h5
        simp only [List.length_cons, List.length_nil] at h5 h3 h20
        omega
  · rfl
def rdV (l : List UInt8) : List Int := (rdF l).getD []
def rdB (l : List UInt8) : Bool := (rdF l).isSome
theorem rd_none {l : List UInt8} (h : rdF l = none) : rdV l = [] ∧ rdB l = false := by unfold rdV rdB; rw [h]; exact ⟨rfl, rfl⟩
theorem rd_some {l : List UInt8} {ns : List Int} (h : rdF l = some ns) : rdV l = ns ∧ rdB l = true := by unfold rdV rdB; rw [h]; exact ⟨rfl, rfl⟩
theorem ret_pairV {u : Value} {a b : Bool} (h : a = b) : Ending.returned (.tuple #[u, .bool a]) = .returned (.tuple #[u, .bool b]) := by rw [h]
theorem OwStr.full {w : World} {B : Nat} {v : Value} {zs : List ByteArray} (h : OwStr w B v zs) (hp : 0 < zs.length) : ∃ g cap, v = .slice (some ⟨g, 0, none⟩) zs.length cap ∧ g < w.heap.size ∧ zs.length ≤ cap ∧ cap ≤ 9223372036854775807 ∧
    ∀ (j : Nat) x, zs[j]? = some x → w.cell? ⟨g, j, none⟩ = some (.string x) := by
  rcases h.open with ⟨_, rfl⟩ | ⟨g, cap, rfl, _, h2, h3, h4, h5⟩
  · simp at hp
  · exact ⟨g, cap, rfl, h2, h3, h4, fun j x hx => by have := h5 j x hx; rwa [Nat.zero_add] at this⟩
theorem take_str {xs : List ByteArray} {k : Nat} {x : ByteArray} (h : xs[k]? = some x) : xs.take (k + 1) = xs.take k ++ [x] := by
  have hk := (List.getElem?_eq_some_iff.1 h).1
  rw [List.take_succ_eq_append_getElem hk]
  congr 1
  simp [(List.getElem?_eq_some_iff.1 h).2]
/-- The numbers of the first k pieces. -/
def AllK (xs : List ByteArray) (k : Nat) (ns : List Int) : Prop := allF ((xs.take k).map (·.data.toList)) = some ns
theorem AllK.next {xs : List ByteArray} {k n : Nat} {ns : List Int} {x : ByteArray} (h : AllK xs k ns) (hx : xs[k]? = some x) (hp : puF x.data.toList = some n) : AllK xs (k + 1) (ns ++ [(n : Int)]) := by
  unfold AllK at h ⊢
  rw [take_str hx, List.map_append, List.map_cons, List.map_nil, allF_append, h, hp]
theorem AllK.len {xs : List ByteArray} {k : Nat} {ns : List Int} (h : AllK xs k ns) : ns.length = min k xs.length := by
  have := congrArg List.length (allF_some h).1
  simpa using this
theorem all_no {xs : List ByteArray} {k : Nat} {x : ByteArray} (hx : xs[k]? = some x) (hp : puF x.data.toList = none) : allF (xs.map (·.data.toList)) = none :=
  allF_none (List.mem_map_of_mem (List.mem_of_getElem? hx)) hp
/-- Own memory in another block than the pieces'. -/
def Off (u : Value) (g : Nat) : Prop := u.ownBlock ≠ some g
theorem Off.next {u u' : Value} {g N : Nat} (h : Off u g) (hg : g < N) (hn : u'.ownBlock = u.ownBlock ∨ ∃ k, u'.ownBlock = some k ∧ N ≤ k) : Off u' g := by
  rcases hn with hn | ⟨k, hk, hN⟩
  · unfold Off
    rw [hn]
    exact h
  · unfold Off
    rw [hk]
    intro e
    simp only [Option.some.injEq] at e
    omega
theorem rdF_no {l : List UInt8} (h : l ≠ []) (ha : allF (splitP 44 l) = none) : rdF l = none := by
  unfold rdF
  rw [if_neg h]
  split
  · exact ha
  · rfl
theorem lens_mem {ps : List (List UInt8)} {p : List UInt8} (h : p ∈ ps) : p.length ≤ Lib.lens ps := by
  induction ps with
  | nil => simp at h
  | cons q r ih =>
    simp only [Lib.lens, List.map_cons, List.sum_cons] at ih ⊢
    rcases List.mem_cons.1 h with rfl | h
    · omega
    · have := ih h
      omega
theorem piece_le {s : ByteArray} {c : UInt8} {xs : List ByteArray} {k : Nat} {x : ByteArray} (hs : s.size ≤ 1048576) (h : xs.map (·.data.toList) = splitP c s.data.toList) (hx : xs[k]? = some x) : x.size ≤ 1099511627776 := by
  have h1 := congrArg List.length (join_split c s.data.toList)
  rw [← h] at h1
  have hm : x.data.toList ∈ xs.map (·.data.toList) := List.mem_map_of_mem (List.mem_of_getElem? hx)
  have h2 := lens_mem hm
  rw [Lib.size_eq] at hs ⊢
  cases hxs : xs with
  | nil => rw [hxs] at hx; simp at hx
  | cons y t =>
    rw [hxs, List.map_cons, Lib.join_length] at h1
    rw [hxs, List.map_cons] at h2
    omega
set_option maxHeartbeats 1000000 in
theorem specReadNumbers_any (s : ByteArray) (hs : s.size ≤ 1048576) (w : World) :
    Calls Tryd.prog 24 #[.string s] w fun e w' => ∃ u, e = .returned (.tuple #[u, .bool (rdB s.data.toList)]) ∧ OwI w' w.heap.size u (rdV s.data.toList) ∧ Below w.heap.size w w' := by
  have ho0 := OwI.empty w w.heap.size (Nat.le_refl _)
  have hb0 := below_alloc1 w (.cells #[] 3)
  have hsz : s.data.toList.length = s.size := (Lib.size_eq s).symm
  go_enter Tryd.func24, Tryd.ntmps24
  by_cases hse : s.size = 0
  · have hs0 : s = ⟨#[]⟩ := str_of (List.eq_nil_of_length_eq_zero (by omega))
    subst hs0
    have HR := Lib.hid (rd_some (l := []) (ns := []) (by unfold rdF; rw [if_pos rfl]))
    have HO := Lib.hid (And.intro ho0 hb0)
    clear ho0 hb0
    go_wp2_with (fail)
    go_ret2
    exact ⟨_, ret_pairV HR.out.2.symm, by rw [HR.out.1]; exact HO.out.1, HO.out.2⟩
  · have hne : s.data.toList ≠ [] := fun e => hse (by rw [← hsz, e]; rfl)
    have hnb : (s.toList == []) = false := beq_eq_false_iff_ne.2 (by rw [ByteArray.toList_eq]; exact hne)
    by_cases hlong : 400 < s.size
    · have h4 : (400 : Int) < (s.size : Int) := by omega
      have HR := Lib.hid (rd_none (rdF_long (l := s.data.toList) (by omega)))
      have HO := Lib.hid (And.intro ho0 hb0)
      clear ho0 hb0 hne
      go_wp2_with (fail)
      go_ret2
      exact ⟨_, ret_pairV HR.out.2.symm, by rw [HR.out.1]; exact HO.out.1, HO.out.2⟩
    · have h4 : ¬ (400 : Int) < (s.size : Int) := by omega
      have hsp := Lib.hid (fun w' => l28Split_any s 44 (by omega) w')
      rw [show ((44 : UInt8).toNat : Int) = 44 from rfl] at hsp
      have HO := Lib.hid (And.intro ho0 hb0)
      have HNE := Lib.hid hne
      clear ho0 hb0 hne
      go_wp2_with (fail)
      generalize hw1 : w.alloc (.cells #[] 3) = w1 at HO ⊢
      refine (hsp.out _).mono ?_
      rintro e w2 ⟨up, xs, rfl, op, hxs, hb⟩
      obtain ⟨ho, hB⟩ := HO.out
      have hs1 : w1.heap.size = w.heap.size + 1 := by rw [← hw1]; simp
      clear HO hsp hw1
      have hpl : 0 < xs.length := by
        rcases Nat.eq_zero_or_pos xs.length with h | h
        · have h2 := List.eq_nil_of_length_eq_zero h
          rw [h2] at hxs
          exact absurd hxs.symm (splitP_ne _ _)
        · exact h
      have hpx : xs.length ≤ 1048577 := by
        have h1 := congrArg List.length (join_split 44 s.data.toList)
        rw [← hxs] at h1
        cases xs with
        | nil => simp
        | cons x t =>
          rw [List.map_cons, Lib.join_length] at h1
          simp only [List.length_cons, List.length_nil, List.length_map] at h1 ⊢
          omega
      have hopl := op.lt
      obtain ⟨gp, cp, rfl, hgp, hcp, hmp, hcell⟩ := op.full hpl
      have hgl : w1.heap.size ≤ gp := (hopl gp rfl).1
      replace ho := ho.below hb
      replace hB := bvia hB hb
      have HXS := Lib.hid hxs
      have HC := Lib.hid hcell
      have hoff : Off (.slice (some ⟨w.heap.size, 0, none⟩) 0 0) gp := by
        unfold Off
        simp [Value.ownBlock]
        omega
      clear hb op hopl hcell hxs
      go_wp2_with (fail)
      go_loopw [4, 6] (fun u i wr => ∃ (k : Nat) (ns : List Int), k ≤ xs.length ∧ i = .int .i64 k ∧ OwI wr w.heap.size u ns ∧ Off u gp ∧ gp < wr.heap.size ∧ Below w.heap.size w wr ∧ Hid (∀ (j : Nat) x, xs[j]? = some x → wr.cell? ⟨gp, j, none⟩ = some (.string x)) ∧ Hid (AllK xs k ns)) (fun _ i _ => xs.length - (intOf i).toNat)
      case atStart => exact ⟨0, [], Nat.zero_le _, rfl, ho, hoff, hgp, hB, HC.out, by show _ = _; simp [allF]⟩
      case round =>
       focus
        clear ho hoff hB HC hgp
        obtain ⟨k, ns, hk, rfl, ho, hoff, hgp, hB, HC, H⟩ := hrel
        have hnl := H.out.len
        by_cases hlt : k < xs.length
        · obtain ⟨x, hx⟩ : ∃ x, xs[k]? = some x := ⟨_, List.getElem?_eq_getElem hlt⟩
          have hck := HC.out k x hx
          have qk : (k : Int) < (xs.length : Int) := by omega
          have hxz : x.size ≤ 1099511627776 := piece_le hs HXS.out hx
          have HP := Lib.hid (fun w' => specParseUint_any x hxz w')
          cases hp : puF x.data.toList with
          | none =>
            rw [puV_no hp] at HP
            have HR := Lib.hid (rd_none (l := s.data.toList) (rdF_no (HNE.out) (by rw [← HXS.out]; exact all_no hx hp)))
            have hwr := hB.size
            clear H hx hnl hxz hp
            go_wp2_with (fail)
            refine (HP.out _).mono ?_
            rintro e w4 ⟨rfl, hb⟩
            replace hB := bvia hB hb
            have hwr4 := hB.size
            have hq := OwI.empty w4 w.heap.size hwr4
            have hq2 := bvia hB (below_alloc1 w4 (.cells #[] 3))
            have HQ := Lib.hid (And.intro hq hq2)
            clear hq hq2 hb hB ho
            go_wp2_with (fail)
            go_ret2
            exact ⟨_, ret_pairV HR.out.2.symm, by rw [HR.out.1]; exact HQ.out.1, HQ.out.2⟩
          | some n =>
            rw [puV_yes hp] at HP
            have HN := Lib.hid (H.out.next hx hp)
            clear H hx hxz hp
            go_wp2_with (fail)
            refine (HP.out _).mono ?_
            rintro e w4 ⟨rfl, hb⟩
            replace hB := bvia hB hb
            replace ho := ho.below hb
            have hgp4 : gp < w4.heap.size := Nat.lt_of_lt_of_le hgp hb.size
            have HC4 : Hid (∀ (j : Nat) x, xs[j]? = some x → w4.cell? ⟨gp, j, none⟩ = some (.string x)) := fun j x hx => cell_on hb (HC.out j x hx)
            have hwr4 := hB.size
            clear hb HC hck
            go_wp2_with (at_builtin; refine wpList_pushI rfl (.tmp 36) (.tmp 38) rfl _ (n : Int) w.heap.size _ ns rfl ho rfl (by omega) hwr4 ?_; intro v7 w7 o7 hg7 hn7; have hB7 := ho.grown_below hB (Nat.le_refl _) hg7; have HC7 : Hid (∀ (j : Nat) x, xs[j]? = some x → w7.cell? ⟨gp, j, none⟩ = some (.string x)) := (fun j x hx => hg7.cell (HC4.out j x hx) (fun e => hoff e.symm)); have hoff7 := hoff.next hgp4 hn7; have hgp7 := Nat.lt_of_lt_of_le hgp4 hg7.size)
            exact ⟨⟨k + 1, ns ++ [(n : Int)], by omega, by go_num, o7, hoff7, hgp7, hB7, HC7.out, HN.out⟩, by simp [intOf]; omega⟩
        · have hall : allF (splitP 44 s.data.toList) = some ns := by
            have h := H.out
            unfold AllK at h
            rw [List.take_of_length_le (by omega), HXS.out] at h
            exact h
          obtain ⟨hl1, hback, hbd⟩ := allF_back hall
          have HNT := Lib.hid (fun v' w' h => specNumbersText_any ns hbd v' w' h)
          have hxl : (splitP 44 s.data.toList).length = xs.length := by rw [← HXS.out, List.length_map]
          obtain ⟨f, hf⟩ : ∃ f : ByteArray, (⟨(numsL ns).toArray⟩ : ByteArray) = f := ⟨_, rfl⟩
          rw [hf] at HNT
          have hfd : f.data.toList = numsL ns := by rw [← hf]
          by_cases h20 : xs.length ≤ 20
          · have HR := Lib.hid (rd_some (l := s.data.toList) (ns := ns) (by unfold rdF; rw [if_neg HNE.out, if_pos (by omega)]; exact hall))
            have hfs : f = s := str_eq (by rw [hfd, hback, if_pos (by omega)])
            have hbq : (f.toList == s.toList) = true := by rw [hfs]; exact beq_self_eq_true _
            clear H hall hl1 hback hbd hf hfd hfs HC hnl hxl
            obtain ⟨au, cu, rfl, _⟩ := ho.form
            go_wp2_with (fail)
            refine (HNT.out _ _ ho.rd).mono ?_
            rintro e w4 ⟨rfl, hb⟩
            replace hB := bvia hB hb
            replace ho := ho.below hb
            clear hb
            go_wp2_with (fail)
            go_ret2
            exact ⟨_, ret_pairV HR.out.2.symm, by rw [HR.out.1]; exact ho, hB⟩
          · have HR := Lib.hid (rd_none (l := s.data.toList) (by unfold rdF; rw [if_neg HNE.out, if_neg (by omega)]))
            have hfs : f ≠ s := fun e => HNE.out (by rw [← e, hfd, hback, if_neg (by omega)])
            have hbq : (f.toList == s.toList) = false := beq_eq_false_iff_ne.2 fun e => hfs (toList_inj e)
            clear H hall hl1 hback hbd hf hfd hfs HC hnl hxl
            obtain ⟨au, cu, rfl, _⟩ := ho.form
            go_wp2_with (fail)
            refine (HNT.out _ _ ho.rd).mono ?_
            rintro e w4 ⟨rfl, hb⟩
            replace hB := bvia hB hb
            have hwr4 := hB.size
            have hq := OwI.empty w4 w.heap.size hwr4
            have hq2 := bvia hB (below_alloc1 w4 (.cells #[] 3))
            have HQ := Lib.hid (And.intro hq hq2)
            clear hq hq2 hb hB ho
            go_wp2_with (fail)
            go_ret2
            exact ⟨_, ret_pairV HR.out.2.symm, by rw [HR.out.1]; exact HQ.out.1, HQ.out.2⟩
/-- internal/bytealg.MaxLen holds some int. -/
abbrev HasMax (w : World) : Prop := ∃ m, w.cell? ⟨0, 0, none⟩ = some (.int .i64 m)
theorem HasMax.below {w w' : World} (h : HasMax w) (hb : Below w.heap.size w w') : HasMax w' := by
  obtain ⟨m, h⟩ := h
  exact ⟨m, cell_on hb h⟩
set_option maxHeartbeats 1000000 in
theorem implReadNumbers_any (s : ByteArray) (hs : s.size ≤ 1048576) (w : World) (ht : Pow10 w) (he : HasErr w) (hm : HasMax w) :
    Calls Tryd.prog 25 #[.string s] w fun e w' => ∃ u, e = .returned (.tuple #[u, .bool (rdB s.data.toList)]) ∧ OwI w' w.heap.size u (rdV s.data.toList) ∧ Below w.heap.size w w' := by
  have hsz : s.data.toList.length = s.size := (Lib.size_eq s).symm
  have HT := Lib.hid (And.intro ht he)
  clear ht he
  go_enter Tryd.func25, Tryd.ntmps25
  by_cases hse : s.size = 0
  · have hs0 : s = ⟨#[]⟩ := str_of (List.eq_nil_of_length_eq_zero (by omega))
    subst hs0
    have HR := Lib.hid (rd_some (l := []) (ns := []) (by unfold rdF; rw [if_pos rfl]))
    have HO := Lib.hid (And.intro (OwI.empty w w.heap.size (Nat.le_refl _)) (below_alloc1 w (.cells #[] 3)))
    go_wp2_with (fail)
    go_ret2
    exact ⟨_, ret_pairV HR.out.2.symm, by rw [HR.out.1]; exact HO.out.1, HO.out.2⟩
  · have hne : s.data.toList ≠ [] := fun e => hse (by rw [← hsz, e]; rfl)
    have hnb : (s.toList == []) = false := beq_eq_false_iff_ne.2 (by rw [ByteArray.toList_eq]; exact hne)
    obtain ⟨mx, hmx⟩ := hm
    have hsp := Lib.hid (split_any s 44 mx w (by omega) hmx)
    have HNE := Lib.hid hne
    clear hne hmx
    go_wp2_with (fail)
    refine hsp.out.mono ?_
    rintro e w1 ⟨up, xs, rfl, op, hxs, hB⟩
    clear hsp
    have hpl : 0 < xs.length := by
      rcases Nat.eq_zero_or_pos xs.length with h | h
      · have h2 := List.eq_nil_of_length_eq_zero h
        rw [h2] at hxs
        exact absurd hxs.symm (splitP_ne _ _)
      · exact h
    obtain ⟨gp, cp, rfl, hgp, hcp, hmp, hcell⟩ := op.full hpl
    have HXS := Lib.hid hxs
    have HC := Lib.hid hcell
    have hxl : (splitP 44 s.data.toList).length = xs.length := by rw [← hxs, List.length_map]
    clear op hcell hxs
    by_cases h20 : xs.length ≤ 20
    · have h20' : ¬ (20 : Int) < (xs.length : Int) := by omega
      have HL := Lib.hid hxl
      clear hxl
      have HO := Lib.hid (And.intro (OwI.empty w1 w1.heap.size (Nat.le_refl _)) (below_alloc1 w1 (.cells #[] 3)))
      go_wp2_with (fail)
      go_loopw [5, 21] (fun u i wr => ∃ (k : Nat) (ns : List Int), k ≤ xs.length ∧ i = .int .i64 k ∧ OwI wr w1.heap.size u ns ∧ Below w1.heap.size w1 wr ∧ Hid (AllK xs k ns)) (fun _ i _ => xs.length - (intOf i).toNat)
      case atStart => exact ⟨0, [], Nat.zero_le _, rfl, HO.out.1, HO.out.2, by show _ = _; simp [allF]⟩
      case round =>
       focus
        clear HO
        obtain ⟨k, ns, hk, rfl, ho, hD, H⟩ := hrel
        have hnl := H.out.len
        by_cases hlt : k < xs.length
        · obtain ⟨x, hx⟩ : ∃ x, xs[k]? = some x := ⟨_, List.getElem?_eq_getElem hlt⟩
          have hck := cell_on hD (HC.out k x hx)
          have qk : (k : Int) < (xs.length : Int) := by omega
          have hxz : x.size ≤ 1099511627776 := piece_le hs HXS.out hx
          have HP := Lib.hid (fun w' h1 h2 => implParseUint_any x hxz w' h1 h2)
          have hq1 := tabIs_below HT.out.1 (bvia hB hD)
          have hq2 := HasErr.below HT.out.2 (bvia hB hD)
          have HQ := Lib.hid (And.intro hq1 hq2)
          clear hq1 hq2
          cases hp : puF x.data.toList with
          | none =>
            rw [puV_no hp] at HP
            have HR := Lib.hid (rd_none (l := s.data.toList) (rdF_no (HNE.out) (by rw [← HXS.out]; exact all_no hx hp)))
            clear H hx hnl hxz hp
            go_wp2_with (fail)
            refine (HP.out _ HQ.out.1 HQ.out.2).mono ?_
            rintro e w4 ⟨rfl, hb⟩
            have HB := Lib.hid (bvia (bvia hB hD) hb)
            clear hb ho hD HQ
            go_wp2_with (fail)
            go_ret2
            exact ⟨_, ret_pairV HR.out.2.symm, by rw [HR.out.1]; exact OwI.nil _ _, HB.out⟩
          | some n =>
            rw [puV_yes hp] at HP
            have HN := Lib.hid (H.out.next hx hp)
            clear H hx hxz hp
            go_wp2_with (fail)
            refine (HP.out _ HQ.out.1 HQ.out.2).mono ?_
            rintro e w4 ⟨rfl, hb⟩
            replace hD := bvia hD hb
            replace ho := ho.below hb
            have hwr4 := hD.size
            clear hb hck HQ
            go_wp2_with (at_builtin; refine wpList_pushI rfl (.tmp 32) (.tmp 34) rfl _ (n : Int) w1.heap.size _ ns rfl ho rfl (by omega) hwr4 ?_; intro v7 w7 o7 hg7 _; have hD7 := ho.grown_below hD (Nat.le_refl _) hg7)
            exact ⟨⟨k + 1, ns ++ [(n : Int)], by omega, by go_num, o7, hD7, HN.out⟩, by simp [intOf]; omega⟩
        · have hall : allF (splitP 44 s.data.toList) = some ns := by
            have h := H.out
            unfold AllK at h
            rw [List.take_of_length_le (by omega), HXS.out] at h
            exact h
          have HR := Lib.hid (rd_some (l := s.data.toList) (ns := ns) (by unfold rdF; rw [if_neg HNE.out, if_pos (by rw [HL.out]; exact h20)]; exact hall))
          have HB := Lib.hid (bvia hB hD)
          have HO := Lib.hid (ho.base hB.size)
          clear H hall hnl
          go_wp2_with (fail)
          go_ret2
          exact ⟨_, ret_pairV HR.out.2.symm, by rw [HR.out.1]; exact HO.out, HB.out⟩
    · have h20' : (20 : Int) < (xs.length : Int) := by omega
      have HR := Lib.hid (rd_none (l := s.data.toList) (by unfold rdF; rw [if_neg HNE.out, if_neg (by omega)]))
      clear hxl
      go_wp2_with (fail)
      go_ret2
      exact ⟨_, ret_pairV HR.out.2.symm, by rw [HR.out.1]; exact OwI.nil _ _, hB⟩
end Go.Proofs.YtkkcglncjdoacaaDoor
