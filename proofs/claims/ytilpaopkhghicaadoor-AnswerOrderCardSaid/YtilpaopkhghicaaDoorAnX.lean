/-
  Contract: the document's Query.
  Lengths within the rows' own reach.
-/
import Derived.Test.YtilpaopkhghicaaDoorAnW
namespace Go.Proofs.YtilpaopkhghicaaDoor.Asc
open Go Go.RowKit Go.Proofs.YtilpaopkhghicaaDoor.Pb

/-! ### plain -/
theorem split_head (s : List UInt8) : ∃ t, s = (splitR 10 s).headD [] ++ t := by
  rcases cut_ways 10 s with h | ⟨a, b, rfl, h⟩
  · exact ⟨[], by rw [splitR_none 10 s h]; simp⟩
  · exact ⟨10 :: b, by rw [splitR_at 10 a b h]; rfl⟩
theorem first_back (s r : List UInt8) (ls : List (List UInt8)) (h : linesOf s = (wUrl ++ 32 :: r) :: ls) : (s.take 4 == [117, 114, 108, 32]) = true := by
  have hh : (splitR 10 s).headD [] = wUrl ++ 32 :: r := by
    unfold linesOf at h
    rw [split_eq] at h
    split at h
    · cases hs : splitR 10 s with
      | nil => rw [hs] at h; simp at h
      | cons a b =>
        rw [hs] at h
        cases b with
        | nil => simp at h
        | cons c b => simp at h; rw [← h.1]; simp
    · rw [h]; simp
  obtain ⟨t, ht⟩ := split_head s
  rw [hh] at ht
  rw [ht]; simp [wUrl]
theorem lines_nil (s : List UInt8) (h : linesOf s = []) : s = [] := by
  unfold linesOf at h
  rw [split_eq] at h
  have hj := join_split s
  split at h
  · cases hs : splitR 10 s with
    | nil => exact (splitR_ne 10 s hs).elim
    | cons a b =>
      rw [hs] at h hj
      rename_i hl
      rw [hs] at hl
      cases b with
      | nil =>
        simp at hl
        rw [hl] at hj
        simp [joinL] at hj
        exact hj
      | cons c b => simp at h
  · exact (splitR_ne 10 s h).elim
theorem word_url (q : Qr) (l : List UInt8) (h : (cutAt 32 l).1 = wUrl) (hw : (wordR q l).1 = true) : ∃ r, l = wUrl ++ 32 :: r := by
  rcases cut_ways 32 l with hc | ⟨a, b, rfl, hc⟩
  · rw [cutAt_none 32 l hc] at h
    dsimp only at h
    rw [h] at hw
    unfold wordR at hw
    rw [beg_bare (by decide), beg_bare (by decide), beg_bare (by decide), beg_bare (by decide), beg_bare (by decide), beg_bare (by decide)] at hw
    exact absurd hw (by simp [wUrl, wCors, wCreds])
  · rw [cutAt_at 32 a b hc] at h
    dsimp only at h
    exact ⟨b, by rw [h]⟩
theorem fold_take (ls : List (List UInt8)) (k : Nat) (h : ((linesQ (ls.take k))).bad = true) : (linesQ ls).bad = true := by
  cases hb : (linesQ ls).bad with
  | true => rfl
  | false =>
    have e : linesQ ls = (ls.drop k).foldl lineQ (linesQ (ls.take k)) := by
      unfold linesQ; rw [← List.foldl_append, List.take_append_drop]
    rw [e] at hb
    rw [fold_bad _ _ hb] at h
    exact absurd h (by decide)
theorem none_of_bad (s : List UInt8) (h : (linesQ (linesOf s)).bad = true) : queryN s = ({}, 8) := by
  unfold queryN; rw [h]; split <;> rfl
theorem line_at (ls : List (List UInt8)) (k : Nat) (l : List UInt8) (h : ls[k]? = some l) : linesQ (ls.take (k + 1)) = lineQ (linesQ (ls.take k)) l := by
  rw [List.take_add_one, h, Option.toList_some, linesQ_snoc]
/-- a line whose word was met, or that is none -/
theorem none_met (s : List UInt8) (k : Nat) (l : List UInt8) (h : (linesOf s)[k]? = some l) (hw : ((cutAt 32 l).1 == wHeader) = false) (hm : (cutAt 32 l).1 ∈ (linesQ ((linesOf s).take k)).met) : queryN s = ({}, 8) := by
  refine none_of_bad s (fold_take _ (k + 1) ?_)
  rw [line_at _ k l h]
  unfold lineQ
  cases hb : (wordN (metN (linesQ ((linesOf s).take k)) (cutAt 32 l).1) (cutAt 32 l).1 (cutAt 32 l).2 (l.contains 32)).bad with
  | true => rfl
  | false =>
    obtain ⟨_, hn, _⟩ := metN_ok hw (wordN_bad hb)
    exact (hn hm).elim
/-- a line that is a good one so far -/
theorem metN_good (st : QS) (w : List UInt8) (hb : st.bad = false) (hm : w ∉ st.met) : metN st w = ⟨st.q, if w == wHeader then st.met else st.met ++ [w], false⟩ := by
  unfold metN
  obtain ⟨q, met, bad⟩ := st
  dsimp only at hb hm
  subst hb
  split
  · rfl
  · rw [show met.contains w = false by simpa using hm]; rfl
theorem good_line (st : QS) (l : List UInt8) (hb : st.bad = false) (hm : (cutAt 32 l).1 ∉ st.met) (hw : (wordR st.q l).1 = true) :
    lineQ st l = ⟨(wordR st.q l).2, if (cutAt 32 l).1 == wHeader then st.met else st.met ++ [(cutAt 32 l).1], false⟩ := by
  unfold lineQ
  rw [metN_good st _ hb hm]
  exact (word_agree st.q _ l).1 hw
theorem bad_line (s : List UInt8) (k : Nat) (l : List UInt8) (h : (linesOf s)[k]? = some l) (hb : (linesQ ((linesOf s).take k)).bad = false) (hm : (cutAt 32 l).1 ∉ (linesQ ((linesOf s).take k)).met) (hw : (wordR (linesQ ((linesOf s).take k)).q l).1 = false) : queryN s = ({}, 8) := by
  refine none_of_bad s (fold_take _ (k + 1) ?_)
  rw [line_at _ k l h]
  unfold lineQ
  rw [metN_good _ _ hb hm]
  exact (word_agree _ _ l).2 hw
theorem none_first (s : List UInt8) (h : (s.take 4 == [117, 114, 108, 32]) = false) : queryN s = ({}, 8) := by
  unfold queryN; rw [if_pos (by rw [h]; simp)]
/-- the word url stands at the first line, and there alone -/
theorem none_url (s : List UInt8) (k : Nat) (l : List UInt8) (h : (linesOf s)[k]? = some l) (hm : (cutAt 32 l).1 ∉ (linesQ ((linesOf s).take k)).met) (hu : ((cutAt 32 l).1 == wUrl) ≠ (k == 0)) : queryN s = ({}, 8) := by
  cases hp : (s.take 4 == [117, 114, 108, 32]) with
  | false => exact none_first s hp
  | true =>
    obtain ⟨r, ls, hf⟩ := first_line s hp
    rw [hf] at h hm
    cases k with
    | zero =>
      simp at h
      rw [← h, cutAt_at 32 wUrl r (by decide)] at hu
      exact (hu (by simp)).elim
    | succ k =>
      have hw : (cutAt 32 l).1 = wUrl := by
        cases e : ((cutAt 32 l).1 == wUrl) with
        | true => simpa using e
        | false => rw [e] at hu; exact (hu (by simp)).elim
      rw [hw] at hm
      refine (hm ?_).elim
      unfold linesQ
      rw [List.take_succ_cons, List.foldl_cons]
      refine fold_met _ _ _ ?_
      rw [lineQ_word _ _ _ (by decide), metN_new _ _ _ (by decide) (by simp), wn0 (by decide)]
      simp
/-- it never has the word header among those met -/
theorem met_header (ls : List (List UInt8)) : wHeader ∉ (linesQ ls).met := by
  have hw : ∀ (st : QS) (w r : List UInt8) (ok : Bool), (wordN st w r ok).met = st.met := by
    intro st w r ok
    unfold wordN headN
    repeat' split
    all_goals rfl
  have key : ∀ (ls : List (List UInt8)) (st : QS), wHeader ∉ st.met → wHeader ∉ (ls.foldl lineQ st).met := by
    intro ls
    induction ls with
    | nil => intro st h; exact h
    | cons l ls ih =>
      intro st h
      refine ih _ ?_
      unfold lineQ
      rw [hw]
      unfold metN
      split
      · exact h
      · rename_i hn
        simp only [List.mem_append, List.mem_singleton, not_or]
        exact ⟨h, fun e => hn (by rw [← e]; rfl)⟩
  exact key ls {} (by simp)
theorem good_end (s : List UInt8) (hl : s.length ≤ 4000) (hne : s ≠ []) (hb : (linesQ (linesOf s)).bad = false) (hf : linesOf s ≠ [] → (s.take 4 == [117, 114, 108, 32]) = true) : queryN s = ((linesQ (linesOf s)).q, 0) := by
  have hp := hf fun e => hne (lines_nil s e)
  unfold queryN
  rw [if_neg (by rw [hp]; simp; omega), if_neg (by rw [hb]; decide)]
theorem split_first (s : List UInt8) (sep : UInt8) : (split s sep)[0]? = some (cutAt sep s).1 := by
  rw [split_eq]
  rcases cut_ways sep s with h | ⟨a, b, rfl, h⟩
  · rw [splitR_none sep s h, cutAt_none sep s h]; rfl
  · rw [splitR_at sep a b h, cutAt_at sep a b h]; rfl
theorem own_self {α : Type} {e : TypeId} {w : World} {F : Nat → Prop} {enc : α → Value} {h1 : ∀ x, (enc x).oneCell' = true} {xs : List α} {v : Value} (h : Own (Rp.flat enc h1) e w F xs v) : Own (Rp.flat enc h1) e w (fun k => v.ownBlock = some k) xs v := by
  obtain ⟨cells, a1, _, a3⟩ := h
  exact ⟨cells, a1, fun _ hk => hk, a3⟩

set_option maxHeartbeats 8000000 in
set_option maxRecDepth 20000 in
theorem rquery_any (s : ByteArray) (hs : s.size ≤ 90000) (w : World) :
    Calls Tryd.prog 11 #[.string s] w fun e w' => ∃ fv, e = .returned (.tuple #[agg8 (queryN (toL s)).1 fv, .int .i64 (queryN (toL s)).2]) ∧ View fld w' (fun _ => True) (queryN (toL s)).1.hds fv ∧ Below w.heap.size w w' := by
  refine calls_gen fun R hR => ?_
  obtain ⟨w1, hw1⟩ : ∃ w1, (w.alloc (.cells #[.string ⟨#[]⟩, .string ⟨#[]⟩, .string ⟨#[]⟩, .string ⟨#[]⟩, .bool false, .bool false, .int .i64 0, .slice none 0 0] 25)).alloc (.cells #[.string ⟨#[]⟩, .string ⟨#[]⟩, .string ⟨#[]⟩, .string ⟨#[]⟩, .bool false, .bool false, .int .i64 0, .slice none 0 0] 25) = w1 := ⟨_, rfl⟩
  have HW1 := Lib.hid hw1
  have HB1 : Hid (Below w.heap.size w w1) := Lib.hid (hw1 ▸ ((Below.refl w.heap.size w).alloc (Nat.le_refl _) _).alloc (by simp) _)
  have HG1 : Hid (w1.heap[w.heap.size]? = some (.cells #[.string ⟨#[]⟩, .string ⟨#[]⟩, .string ⟨#[]⟩, .string ⟨#[]⟩, .bool false, .bool false, .int .i64 0, .slice none 0 0] 25 (0, 0))) := Lib.hid (hw1 ▸ blk_past (blk_new w _))
  have HN1 : Hid (w1.heap[w.heap.size + 1]? = some (.cells #[.string ⟨#[]⟩, .string ⟨#[]⟩, .string ⟨#[]⟩, .string ⟨#[]⟩, .bool false, .bool false, .int .i64 0, .slice none 0 0] 25 (0, 0))) := Lib.hid (by
    have := blk_new (w.alloc (.cells #[.string ⟨#[]⟩, .string ⟨#[]⟩, .string ⟨#[]⟩, .string ⟨#[]⟩, .bool false, .bool false, .int .i64 0, .slice none 0 0] 25)) (.cells #[.string ⟨#[]⟩, .string ⟨#[]⟩, .string ⟨#[]⟩, .string ⟨#[]⟩, .bool false, .bool false, .int .i64 0, .slice none 0 0] 25)
    simp only [World.size_alloc] at this
    rw [← hw1]; exact this)
  clear hw1
  go_enter Tryd.func11, Tryd.ntmps11
  go_upto_region 2 with fail
  rw [HW1.out]
  clear HW1
  by_cases hbig : (s.size : Int) > 4000
  · have HQ : Hid (queryN (toL s) = ({}, 8)) := Lib.hid (by
      unfold queryN; rw [if_pos]; rw [show decide ((toL s).length > 4000) = true from decide_eq_true (by rw [toL_len]; omega)]; rfl)
    have gr := (HG1.out)
    have gn := (HN1.out)
    have fr0 := blk_free gr 0
    have fr1 := blk_free gr 1
    have fr2 := blk_free gr 2
    have fr3 := blk_free gr 3
    have fr4 := blk_free gr 4
    have fr5 := blk_free gr 5
    have fr6 := blk_free gr 6
    have fr7 := blk_free gr 7
    obtain ⟨cr0, cr1, cr2, cr3, cr4, cr5, cr6, cr7⟩ := cell8 gr
    obtain ⟨cn0, cn1, cn2, cn3, cn4, cn5, cn6, cn7⟩ := cell8 gn
    have hltr := blk_lt gr
    have hltn := blk_lt gn
    have GR := Lib.hid gr
    have HBX : Hid (Below w.heap.size w w1) := Lib.hid (HB1.out)
    clear gr gn
    go_wp2_with fail
    have Z := cell8 (blk8 GR.out (.string ⟨#[]⟩) (.string ⟨#[]⟩) (.string ⟨#[]⟩) (.string ⟨#[]⟩) (.bool false) (.bool false) (.int .i64 0) (.slice none 0 0))
    have kb := keep8 w1 w.heap.size (.string ⟨#[]⟩) (.string ⟨#[]⟩) (.string ⟨#[]⟩) (.string ⟨#[]⟩) (.bool false) (.bool false) (.int .i64 0) (.slice none 0 0)
    unfold put8 at Z kb
    obtain ⟨z0, z1, z2, z3, z4, z5, z6, z7⟩ := Z
    rw [HQ.out] at hR
    exact bodyPost_ret (v := .tuple #[.agg #[.string ⟨#[]⟩, .string ⟨#[]⟩, .string ⟨#[]⟩, .string ⟨#[]⟩, .bool false, .bool false, .int .i64 0, .slice none 0 0], .int .i64 8]) (by simp [results, Tryd.results11, go_sem, z0, z1, z2, z3, z4, z5, z6, z7]) rfl (hR _ _ ⟨.slice none 0 0, rfl, View.nil _ _ _, HBX.out.trans (kb.below (by exact HBX.out.size) fun i hi e => by omega)⟩)
  cases he : s.toList.isEmpty with
  | true =>
    have HQ : Hid (queryN (toL s) = ({}, 8)) := Lib.hid (by
      rw [toList_toL, List.isEmpty_iff] at he
      rw [he]; decide)
    have gr := (HG1.out)
    have gn := (HN1.out)
    have fr0 := blk_free gr 0
    have fr1 := blk_free gr 1
    have fr2 := blk_free gr 2
    have fr3 := blk_free gr 3
    have fr4 := blk_free gr 4
    have fr5 := blk_free gr 5
    have fr6 := blk_free gr 6
    have fr7 := blk_free gr 7
    obtain ⟨cr0, cr1, cr2, cr3, cr4, cr5, cr6, cr7⟩ := cell8 gr
    obtain ⟨cn0, cn1, cn2, cn3, cn4, cn5, cn6, cn7⟩ := cell8 gn
    have hltr := blk_lt gr
    have hltn := blk_lt gn
    have GR := Lib.hid gr
    have HBX : Hid (Below w.heap.size w w1) := Lib.hid (HB1.out)
    clear gr gn
    go_wp2_with fail
    have Z := cell8 (blk8 GR.out (.string ⟨#[]⟩) (.string ⟨#[]⟩) (.string ⟨#[]⟩) (.string ⟨#[]⟩) (.bool false) (.bool false) (.int .i64 0) (.slice none 0 0))
    have kb := keep8 w1 w.heap.size (.string ⟨#[]⟩) (.string ⟨#[]⟩) (.string ⟨#[]⟩) (.string ⟨#[]⟩) (.bool false) (.bool false) (.int .i64 0) (.slice none 0 0)
    unfold put8 at Z kb
    obtain ⟨z0, z1, z2, z3, z4, z5, z6, z7⟩ := Z
    rw [HQ.out] at hR
    exact bodyPost_ret (v := .tuple #[.agg #[.string ⟨#[]⟩, .string ⟨#[]⟩, .string ⟨#[]⟩, .string ⟨#[]⟩, .bool false, .bool false, .int .i64 0, .slice none 0 0], .int .i64 8]) (by simp [results, Tryd.results11, go_sem, z0, z1, z2, z3, z4, z5, z6, z7]) rfl (hR _ _ ⟨.slice none 0 0, rfl, View.nil _ _ _, HBX.out.trans (kb.below (by exact HBX.out.size) fun i hi e => by omega)⟩)
  | false =>
    have HNE : Hid (toL s ≠ []) := Lib.hid (fun e => by rw [toList_toL, e] at he; cases he)
    go_wp2_with fail
    refine (rsplit_any s 10 w1 (by omega)).mono ?_
    rintro e w2 ⟨v, rfl, ho, hb2⟩
    have hne := split_ne (toL s) 10
    obtain ⟨LS, hLS⟩ : ∃ l, split (toL s) 10 = l := ⟨_, rfl⟩
    rw [hLS] at ho hne
    obtain ⟨A, c, rfl, hc⟩ := ho.slice
    have hlen : 0 < LS.length := List.length_pos_iff.2 hne
    obtain ⟨A', c', e, hcl, hget⟩ := ho.view.open1
    cases e
    obtain ⟨g, off, rfl, hg, hgx⟩ := hget 0 hlen
    obtain ⟨x, hx⟩ : ∃ x, LS[LS.length - 1]? = some x := ⟨_, List.getElem?_eq_getElem (by omega)⟩
    have d0 : w2.cell? ⟨g, off + (LS.length - 1), none⟩ = some (.string (ofL x)) := hgx _ x hx
    obtain ⟨X, hX⟩ : ∃ X, ofL x = X := ⟨_, rfl⟩
    have HX : Hid (X.toList = x) := Lib.hid (by rw [← hX, toList_ofL])
    rw [hX] at d0
    have hll : LS.length ≤ 90001 := by rw [← hLS]; have := split_len (toL s) 10; rw [toL_len] at this; omega
    have HV := Lib.hid ho.view; have HB2 := Lib.hid hb2
    have HLN : Hid (linesOf (toL s) = if x = [] then LS.take (LS.length - 1) else LS) := Lib.hid (by
      unfold linesOf
      rw [hLS, List.getLast?_eq_getElem?, hx, List.dropLast_eq_take]
      by_cases h : x = [] <;> simp [h])
    have hi0 : (0 : Int) ≤ (LS.length : Int) - 1 := by omega
    have hi1 : (LS.length : Int) - 1 < (LS.length : Int) := by omega
    have hi2 : ((LS.length : Int) - 1).toNat = LS.length - 1 := by omega
    have hi3 : LS.length - 1 < LS.length := by omega
    have hi4 : (LS.length : Int) - 1 ≤ (c : Int) := by omega
    clear hb2 ho hLS hget hgx hx hne hX
    go_upto_if 27 with fail
    go_cut [5] (fun v wc => wc = w2 ∧ ∃ A c, v = .slice A (linesOf (toL s)).length c ∧ View Rp.str w2 (fun k => w1.heap.size ≤ k ∧ k < w2.heap.size) (linesOf (toL s)) v)
    case first =>
      cases hxe : X.toList.isEmpty with
      | true =>
        have hx0 : x = [] := by rw [HX.out] at hxe; exact List.isEmpty_iff.1 hxe
        have hln := HLN.out
        rw [if_pos hx0] at hln
        have HL2 := Lib.hid hln
        clear hln
        go_wp2_with fail
        go_meet
        rw [HL2.out, List.length_take, Nat.min_eq_left (by omega)]
        exact ⟨rfl, _, c, rfl, (View.take HV.out (LS.length - 1) (by omega) (fun e => by cases e)).bnd⟩
      | false =>
        have hx0 : ¬ x = [] := fun e => by rw [HX.out, e] at hxe; cases hxe
        have hln := HLN.out
        rw [if_neg hx0] at hln
        have HL2 := Lib.hid hln
        clear hln
        go_wp2_with fail
        go_meet
        rw [HL2.out]
        exact ⟨rfl, _, c, rfl, HV.out.bnd⟩
    case rest =>
      obtain ⟨hwc, A, c, rfl, hv⟩ := hcut
      rw [hwc]
      obtain ⟨hq1, hq2⟩ := linesOf_facts (toL s)
      rw [toL_len] at hq1 hq2
      obtain ⟨ls, hls⟩ : ∃ l, linesOf (toL s) = l := ⟨_, rfl⟩
      have HLS := Lib.hid hls
      rw [hls] at hv hq1 hq2 ⊢
      have HX2 := Lib.hid hq2; have HV2 := Lib.hid hv
      clear hwc hls hv hq2 d0 HLN HX hi0 hi1 hi2 hi3 hi4 hll hlen hc hcl HV hg he
      obtain ⟨b, hb⟩ : ∃ b, w2.heap.size = b := ⟨_, rfl⟩
      have HNUM : Hid (w.heap.size + 1 < w1.heap.size ∧ w1.heap.size ≤ b ∧ w2.heap.size = b) := Lib.hid ⟨blk_lt HN1.out, hb ▸ HB2.out.size, hb⟩
      obtain ⟨w3, hw3⟩ : ∃ w3, w2.alloc (.cells #[.string ⟨#[]⟩, .string ⟨#[]⟩, .string ⟨#[]⟩, .string ⟨#[71, 69, 84]⟩, .bool false, .bool false, .int .i64 0, .slice none 0 0] 25) = w3 := ⟨_, rfl⟩
      have HW3 := Lib.hid hw3
      have HB3 : Hid (Below b w2 w3) := Lib.hid (by rw [← hw3, ← hb]; exact below_new w2 _)
      have HQ3 : Hid (QIn w3 (fun j => b < j ∧ ¬ (Value.slice none 0 0).ownBlock = some j) b { meth := wGet } (.slice none 0 0)) := Lib.hid ⟨by
        have := blk_new w2 (.cells #[.string ⟨#[]⟩, .string ⟨#[]⟩, .string ⟨#[]⟩, .string ⟨#[71, 69, 84]⟩, .bool false, .bool false, .int .i64 0, .slice none 0 0] 25)
        rw [hw3, hb] at this; exact this, Own.nil _ _ _ _, fun k h => by simp [Value.ownBlock] at h, fun h => by omega⟩
      have HV3 : Hid (View Rp.str w3 (fun k => k < b) ls (.slice A ls.length c)) := Lib.hid ((HV2.out.below (hb.symm ▸ HB3.out)).mono fun k h => by rw [← hb]; exact h.2)
      have HG3 : Hid (w3.heap[w.heap.size]? = some (.cells #[.string ⟨#[]⟩, .string ⟨#[]⟩, .string ⟨#[]⟩, .string ⟨#[]⟩, .bool false, .bool false, .int .i64 0, .slice none 0 0] 25 (0, 0))) := Lib.hid ((HB3.out.block _ (by have := HNUM.out; omega)).trans ((HB2.out.block _ (by have := HNUM.out; omega)).trans HG1.out))
      have HN3 : Hid (w3.heap[w.heap.size + 1]? = some (.cells #[.string ⟨#[]⟩, .string ⟨#[]⟩, .string ⟨#[]⟩, .string ⟨#[]⟩, .bool false, .bool false, .int .i64 0, .slice none 0 0] 25 (0, 0))) := Lib.hid ((HB3.out.block _ (by have := HNUM.out; omega)).trans ((HB2.out.block _ (by have := HNUM.out; omega)).trans HN1.out))
      have HBW3 : Hid (Below w.heap.size w w3) := Lib.hid ((HB1.out.trans (HB2.out.mono HB1.out.size)).trans (HB3.out.mono (by have := HNUM.out; omega)))
      have hbl := hb
      clear hw3 hb
      go_upto_region 8 with fail
      rw [HW3.out]
      clear hbl
      go_wp2_with fail
      go_loopw [7, 8] (fun mv i wr => ∃ (k : Nat) (F : Value), k ≤ ls.length ∧ i = .int .i64 k ∧ (linesQ (ls.take k)).bad = false ∧ (0 < k → ((toL s).take 4 == [117, 114, 108, 32]) = true) ∧
          QIn wr (fun j => b < j ∧ ¬ mv.ownBlock = some j) b (linesQ (ls.take k)).q F ∧ Own Rp.str 9 wr (fun j => mv.ownBlock = some j) (linesQ (ls.take k)).met mv ∧ (∀ j, mv.ownBlock = some j → b < j) ∧ Keep (fun j => b ≤ j) w3 wr)
        (fun _ i _ => ls.length - (intOf i).toNat)
      case atStart => exact ⟨0, .slice none 0 0, Nat.zero_le _, rfl, rfl, fun h => by omega, HQ3.out, Own.nil _ _ _ _, fun j h => by simp [Value.ownBlock] at h, Keep.refl _ _⟩
      case round =>
        obtain ⟨k, F, hk, rfl, hgood, hpre, hq, hown, hmb, hkp⟩ := hrel
        have HGOOD := Lib.hid hgood; have HPRE := Lib.hid hpre; have HQR := Lib.hid hq; have HMV := Lib.hid hown; have HMB := Lib.hid hmb; have HKP := Lib.hid hkp
        have HGR : Hid (wr.heap[w.heap.size]? = _) := Lib.hid (hkp.blk HG3.out (by have := HNUM.out; show ¬ b ≤ _; omega))
        have HNR : Hid (wr.heap[w.heap.size + 1]? = _) := Lib.hid (hkp.blk HN3.out (by have := HNUM.out; show ¬ b ≤ _; omega))
        have HVR : Hid (View Rp.str wr (fun k => k < b) ls (.slice A ls.length c)) := Lib.hid (HV3.out.keep hkp fun j h e => by omega)
        have HBR : Hid (Below w.heap.size w wr) := Lib.hid (HBW3.out.trans (hkp.below HBW3.out.size fun i hi h => by have := HNUM.out; omega))
        clear hgood hpre hq hown hmb hkp
        obtain ⟨n1, n2⟩ := linesQ_len ls k hk
        by_cases hlt : k < ls.length
        · obtain ⟨x, hx⟩ : ∃ x, ls[k]? = some x := ⟨_, List.getElem?_eq_getElem hlt⟩
          have hxl : x.length ≤ s.size := HX2.out x (List.mem_of_getElem? hx)
          have HXL : Hid ((linesOf (toL s))[k]? = some x) := Lib.hid (by rw [HLS.out]; exact hx)
          obtain ⟨A', c', e, _, hget⟩ := HVR.out.open1
          cases e
          obtain ⟨g, off, rfl, hg, hgx⟩ := hget k hlt
          have d0 : wr.cell? ⟨g, off + k, none⟩ = some (.string (ofL x)) := hgx k x hx
          have hgb : Hid (g < wr.heap.size) := Lib.hid hg
          obtain ⟨X, hX⟩ : ∃ X, ofL x = X := ⟨_, rfl⟩
          have HX : Hid (toL X = x) := Lib.hid (by rw [← hX, toL_ofL])
          have hXs : X.size ≤ 100000 := by rw [← hX, ofL_size]; omega
          rw [hX] at d0
          clear hX hget hgx hx hxl
          go_wp2_with fail
          refine (rsplit_any X 32 wr (by omega)).mono ?_
          rintro e w5 ⟨v5, rfl, ho5, hb5⟩
          rw [HX.out] at ho5
          obtain ⟨wd, hwd⟩ : ∃ y, (cutAt 32 x).1 = y := ⟨_, rfl⟩
          have hs0 := split_first x 32
          rw [hwd] at hs0
          obtain ⟨A5, c5, e, _, hget5⟩ := ho5.view.open1
          have hl5 : 0 < (split x 32).length := List.length_pos_iff.2 (split_ne x 32)
          subst e
          obtain ⟨g5, off5, rfl, hg5, hgx5⟩ := hget5 0 hl5
          have d5 : w5.cell? ⟨g5, off5, none⟩ = some (.string (ofL wd)) := hgx5 0 wd hs0
          have hwl : wd.length ≤ 100000 := by rw [← hwd]; have := cut_le 32 x; rw [← HX.out, toL_len] at this; rw [← HX.out]; omega
          obtain ⟨W, hW⟩ : ∃ X, ofL wd = X := ⟨_, rfl⟩
          have HWD : Hid (toL W = wd ∧ W.toList = wd) := Lib.hid ⟨by rw [← hW, toL_ofL], by rw [← hW, toList_ofL]⟩
          have HWS : Hid (W.size ≤ 100000) := Lib.hid (by rw [← hW, ofL_size]; exact hwl)
          rw [hW] at d5
          have HCUT := Lib.hid hwd
          have HB5 := Lib.hid hb5
          obtain ⟨n5, hn5⟩ : ∃ n, (split x 32).length = n := ⟨_, rfl⟩
          rw [hn5] at hl5 ⊢
          have hl5i : (0 : Int) < (n5 : Int) := by omega
          clear hs0 ho5 hget5 hgx5 hb5 hwd hW hwl hn5
          have HQ5 := Lib.hid (HQR.out.below HB5.out)
          have HM5 := Lib.hid (HMV.out.below HB5.out)
          have HG5 : Hid (w5.heap[w.heap.size]? = _) := Lib.hid ((HB5.out.block _ (blk_lt HGR.out)).trans HGR.out)
          have HN5 : Hid (w5.heap[w.heap.size + 1]? = _) := Lib.hid ((HB5.out.block _ (blk_lt HNR.out)).trans HNR.out)
          have HBW5 : Hid (Below w.heap.size w w5) := Lib.hid (HBR.out.trans (HB5.out.mono HBR.out.size))
          go_wp2_with fail
          refine (rin_any W (linesQ (ls.take k)).met u7 _ w5 HM5.out.view (by omega)).mono ?_
          rintro e w6 ⟨rfl, hw6⟩
          rw [← hw6, HWD.out.1]
          clear hw6
          have HXK : Hid (ls[k]? = some x) := Lib.hid (by have := HXL.out; rw [HLS.out] at this; exact this)
          by_cases hmem : wd ∈ (linesQ (ls.take k)).met
          · have HQX : Hid (queryN (toL s) = ({}, 8)) := Lib.hid (none_met (toL s) k x HXL.out (by
              rw [HCUT.out, beq_eq_false_iff_ne]; intro e; rw [e] at hmem; exact met_header _ hmem) (by rw [HCUT.out, HLS.out]; exact hmem))
            rw [decide_eq_true hmem]
            clear hmem
            have gr := (HG5.out)
            have gn := (HN5.out)
            have fr0 := blk_free gr 0
            have fr1 := blk_free gr 1
            have fr2 := blk_free gr 2
            have fr3 := blk_free gr 3
            have fr4 := blk_free gr 4
            have fr5 := blk_free gr 5
            have fr6 := blk_free gr 6
            have fr7 := blk_free gr 7
            obtain ⟨cr0, cr1, cr2, cr3, cr4, cr5, cr6, cr7⟩ := cell8 gr
            obtain ⟨cn0, cn1, cn2, cn3, cn4, cn5, cn6, cn7⟩ := cell8 gn
            have hltr := blk_lt gr
            have hltn := blk_lt gn
            have GR := Lib.hid gr
            have HBX : Hid (Below w.heap.size w w5) := Lib.hid (HBW5.out)
            clear gr gn
            go_wp2_with fail
            have Z := cell8 (blk8 GR.out (.string ⟨#[]⟩) (.string ⟨#[]⟩) (.string ⟨#[]⟩) (.string ⟨#[]⟩) (.bool false) (.bool false) (.int .i64 0) (.slice none 0 0))
            have kb := keep8 w5 w.heap.size (.string ⟨#[]⟩) (.string ⟨#[]⟩) (.string ⟨#[]⟩) (.string ⟨#[]⟩) (.bool false) (.bool false) (.int .i64 0) (.slice none 0 0)
            unfold put8 at Z kb
            obtain ⟨z0, z1, z2, z3, z4, z5, z6, z7⟩ := Z
            rw [HQX.out] at hR
            exact bodyPost_ret (v := .tuple #[.agg #[.string ⟨#[]⟩, .string ⟨#[]⟩, .string ⟨#[]⟩, .string ⟨#[]⟩, .bool false, .bool false, .int .i64 0, .slice none 0 0], .int .i64 8]) (by simp [results, Tryd.results11, go_sem, z0, z1, z2, z3, z4, z5, z6, z7]) rfl (hR _ _ ⟨.slice none 0 0, rfl, View.nil _ _ _, HBX.out.trans (kb.below (by exact HBX.out.size) fun i hi e => by omega)⟩)
          · rw [decide_eq_false hmem]
            have HNM := Lib.hid hmem
            clear hmem
            have hz : ((k : Int) == 0) = (k == 0) := by rw [Bool.eq_iff_iff, beq_iff_eq, beq_iff_eq]; omega
            have HZ := Lib.hid hz
            clear hz
            by_cases hk0 : k = 0
            · have hz : ((k : Int) == 0) = true := by rw [HZ.out, hk0]; rfl
              have HKZ := Lib.hid hk0
              clear hk0
              cases hu : (W.toList == [117, 114, 108]) with
              | false =>
                have HQX : Hid (queryN (toL s) = ({}, 8)) := Lib.hid (none_url (toL s) k x HXL.out (by rw [HCUT.out, HLS.out]; exact HNM.out) (by
                  rw [HCUT.out, ← HWD.out.2, show (W.toList == wUrl) = false from hu, HKZ.out]; decide))
                have gr := (HG5.out)
                have gn := (HN5.out)
                have fr0 := blk_free gr 0
                have fr1 := blk_free gr 1
                have fr2 := blk_free gr 2
                have fr3 := blk_free gr 3
                have fr4 := blk_free gr 4
                have fr5 := blk_free gr 5
                have fr6 := blk_free gr 6
                have fr7 := blk_free gr 7
                obtain ⟨cr0, cr1, cr2, cr3, cr4, cr5, cr6, cr7⟩ := cell8 gr
                obtain ⟨cn0, cn1, cn2, cn3, cn4, cn5, cn6, cn7⟩ := cell8 gn
                have hltr := blk_lt gr
                have hltn := blk_lt gn
                have GR := Lib.hid gr
                have HBX : Hid (Below w.heap.size w w5) := Lib.hid (HBW5.out)
                clear gr gn
                go_wp2_with fail
                have Z := cell8 (blk8 GR.out (.string ⟨#[]⟩) (.string ⟨#[]⟩) (.string ⟨#[]⟩) (.string ⟨#[]⟩) (.bool false) (.bool false) (.int .i64 0) (.slice none 0 0))
                have kb := keep8 w5 w.heap.size (.string ⟨#[]⟩) (.string ⟨#[]⟩) (.string ⟨#[]⟩) (.string ⟨#[]⟩) (.bool false) (.bool false) (.int .i64 0) (.slice none 0 0)
                unfold put8 at Z kb
                obtain ⟨z0, z1, z2, z3, z4, z5, z6, z7⟩ := Z
                rw [HQX.out] at hR
                exact bodyPost_ret (v := .tuple #[.agg #[.string ⟨#[]⟩, .string ⟨#[]⟩, .string ⟨#[]⟩, .string ⟨#[]⟩, .bool false, .bool false, .int .i64 0, .slice none 0 0], .int .i64 8]) (by simp [results, Tryd.results11, go_sem, z0, z1, z2, z3, z4, z5, z6, z7]) rfl (hR _ _ ⟨.slice none 0 0, rfl, View.nil _ _ _, HBX.out.trans (kb.below (by exact HBX.out.size) fun i hi e => by omega)⟩)
              | true =>
                have HUU : Hid ((wd == wUrl) = true) := Lib.hid (by rw [← HWD.out.2]; exact hu)
                have HCW : Hid ((cutAt 32 x).1 = wd) := Lib.hid HCUT.out
                go_upto_if 59 with fail
                go_cut [7] (fun mv wc => Own Rp.str 9 wc (fun j => mv.ownBlock = some j) (if wd == wHeader then (linesQ (ls.take k)).met else (linesQ (ls.take k)).met ++ [wd]) mv ∧ QIn wc (fun j => b < j ∧ ¬ mv.ownBlock = some j) b (linesQ (ls.take k)).q F ∧ (∀ j, mv.ownBlock = some j → b < j) ∧ Keep (fun j => b ≤ j) w5 wc)
                case first =>
                  cases hh : (W.toList == [104, 101, 97, 100, 101, 114]) with
                  | true =>
                    have he : (wd == wHeader) = true := by rw [← HWD.out.2]; exact hh
                    have HE := Lib.hid he
                    clear he
                    go_wp2_with fail
                    go_meet
                    rw [if_pos HE.out]
                    exact ⟨HM5.out, HQ5.out, HMB.out, Keep.refl _ _⟩
                  | false =>
                    have he : ¬ (wd == wHeader) = true := by rw [← HWD.out.2]; intro e; rw [show (W.toList == wHeader) = (W.toList == [104, 101, 97, 100, 101, 114]) from rfl, hh] at e; exact absurd e (by decide)
                    have HE := Lib.hid he
                    clear he
                    go_wp2_with (with_reducible (first | refine stop_append ?_))
                    refine ⟨wp_append1 (r := Rp.str) (F := fun j => u7.ownBlock = some j) (G := fun _ => False) (y := wd) Tryd.underlying36 info9 rfl (by decide) HM5.out rfl rfl (by show [Value.string W] = [Value.string (ofL wd)]; rw [← HWD.out.1, ofL_toL]) (fun _ h => h.elim) (by omega) (by decide) ?_⟩
                    intro v1 wa ho1 hk1 _ hb1
                    have hbw : b < w5.heap.size := HQ5.out.lt
                    have hq1 := (HQ5.out.mono (S' := fun j => b < j ∧ ¬ u7.ownBlock = some j ∧ ¬ v1.ownBlock = some j) (fun j hj h => ⟨h.1, h.2, fun e => by
                      rcases hb1 with h1 | ⟨i, h1, h2⟩
                      · rw [h1] at e; exact h.2 e
                      · rw [h1] at e; cases e; omega⟩) (fun h => by omega)).keep hk1 (fun j hj h e => by
                      rcases h with h | h
                      · exact h.2.1 e.symm
                      · rw [h] at e; have := HMB.out b e.symm; omega)
                    have HQA := Lib.hid (hq1.mono (S' := fun j => b < j ∧ ¬ v1.ownBlock = some j) (fun j hj h => ⟨h.1, h.2.2⟩) (fun h => by omega))
                    have HOA := Lib.hid (own_self ho1)
                    have HMA : Hid (∀ j, v1.ownBlock = some j → b < j) := Lib.hid fun j hj => by
                      rcases hb1 with h1 | ⟨i, h1, h2⟩
                      · rw [h1] at hj; exact HMB.out j hj
                      · rw [h1] at hj; cases hj; omega
                    have HKA := Lib.hid (hk1.mono (F := fun j => some j = u7.ownBlock) (fun j _ e => show b ≤ j from Nat.le_of_lt (HMB.out j e.symm)))
                    clear hq1 ho1 hk1 hb1 hbw
                    go_wp2_with fail
                    go_meet
                    rw [if_neg HE.out]
                    exact ⟨HOA.out, HQA.out, HMA.out, HKA.out⟩
                case rest =>
                  obtain ⟨hom, hqm, hmb, hkm⟩ := hcut
                  have HOM := Lib.hid hom; have HQM := Lib.hid hqm; have HMM := Lib.hid hmb
                  have HVC : Hid (View Rp.str wc (fun k => k < b) ls (.slice (some ⟨g, off, none⟩) ls.length c)) := Lib.hid ((HVR.out.below HB5.out).keep hkm fun j h e => by omega)
                  have HGC : Hid (wc.heap[w.heap.size]? = _) := Lib.hid (hkm.blk HG5.out (by have := HNUM.out; show ¬ b ≤ _; omega))
                  have HNC : Hid (wc.heap[w.heap.size + 1]? = _) := Lib.hid (hkm.blk HN5.out (by have := HNUM.out; show ¬ b ≤ _; omega))
                  have HKC : Hid (Keep (fun j => b ≤ j) w3 wc) := Lib.hid ((HKP.out.trans (Keep.old (F := fun j => b ≤ j) HB5.out) fun _ _ h => h).trans hkm fun _ _ h => h)
                  clear hom hqm hmb hkm d0 d5
                  obtain ⟨A', c', e, _, hget⟩ := HVC.out.open1
                  cases e
                  obtain ⟨g', off', e', hg', hgx⟩ := hget k hlt
                  cases e'
                  have d0 : wc.cell? ⟨g, off + k, none⟩ = some (.string (ofL x)) := hgx k x HXK.out
                  rw [show ofL x = X by rw [← HX.out, ofL_toL]] at d0
                  clear hget hgx
                  go_wp2_with fail
                  refine (word_any wc _ b _ F HQM.out (by omega) X hXs).mono ?_
                  rintro e w8 ⟨rfl, F8, hq8, hk8⟩
                  rw [HX.out] at hq8 ⊢
                  have hq9 := hq8.mono (S' := fun j => b < j ∧ ¬ Value.ownBlock _ = some j) (fun j hj h => by
                    rcases h with h | h
                    · exact h
                    · exact ⟨by have := HQM.out.lt; omega, fun e => by have := own_lt2 HOM.out e; omega⟩) (fun h => by omega)
                  have HQ8 := Lib.hid hq9
                  have HO8 := Lib.hid (HOM.out.keep hk8 fun j hj h => by
                    rcases h with h | h
                    · exact h.2 hj
                    · have := HMM.out j hj; omega)
                  have HK8 : Hid (Keep (fun j => b ≤ j) w3 w8) := Lib.hid (HKC.out.trans hk8 fun j _ h => by
                    rcases h with h | h
                    · exact Nat.le_of_lt h.1
                    · omega)
                  clear hq8 hq9 hk8
                  obtain ⟨wb, hwb⟩ : ∃ t, (wordR (linesQ (ls.take k)).q x).1 = t := ⟨_, rfl⟩
                  rw [hwb]
                  cases wb with
                  | true =>
                    have HT : Hid (linesQ (ls.take (k + 1)) = ⟨(wordR (linesQ (ls.take k)).q x).2, if wd == wHeader then (linesQ (ls.take k)).met else (linesQ (ls.take k)).met ++ [wd], false⟩) := Lib.hid (by
                      rw [line_at ls k x HXK.out, good_line _ x HGOOD.out (by rw [HCW.out]; exact HNM.out) hwb, HCW.out])
                    have HU1 : Hid (((toL s).take 4 == [117, 114, 108, 32]) = true) := Lib.hid (by
                      have hww : wd = wUrl := by
                        have := HUU.out; rw [beq_iff_eq] at this; exact this
                      obtain ⟨r, hr⟩ := word_url _ x (HCW.out.trans hww) hwb
                      have hls := HXK.out
                      have hk0 : k = 0 := HKZ.out
                      rw [hk0, hr] at hls
                      cases hl0 : ls with
                      | nil => rw [hl0] at hls; simp at hls
                      | cons y l =>
                        rw [hl0] at hls
                        simp at hls
                        exact first_back (toL s) r l (by rw [HLS.out, hl0, hls]))
                    clear hwb
                    go_wp2_with fail
                    go_roundw
                    case rel =>
                      refine ⟨k + 1, F8, by omega, by go_num, by rw [HT.out], fun _ => HU1.out, by rw [HT.out]; exact HQ8.out, by rw [HT.out]; exact HO8.out, HMM.out, HK8.out⟩
                    case measure => simp [intOf]; omega
                  | false =>
                    have HQX : Hid (queryN (toL s) = ({}, 8)) := Lib.hid (bad_line (toL s) k x HXL.out (by rw [HLS.out]; exact HGOOD.out) (by rw [HCW.out, HLS.out]; exact HNM.out) (by rw [HLS.out]; exact hwb))
                    have HG8 : Hid (w8.heap[w.heap.size]? = _) := Lib.hid (HK8.out.blk HG3.out (by have := HNUM.out; show ¬ b ≤ _; omega))
                    have HN8 : Hid (w8.heap[w.heap.size + 1]? = _) := Lib.hid (HK8.out.blk HN3.out (by have := HNUM.out; show ¬ b ≤ _; omega))
                    clear hwb
                    have gr := (HG8.out)
                    have gn := (HN8.out)
                    have fr0 := blk_free gr 0
                    have fr1 := blk_free gr 1
                    have fr2 := blk_free gr 2
                    have fr3 := blk_free gr 3
                    have fr4 := blk_free gr 4
                    have fr5 := blk_free gr 5
                    have fr6 := blk_free gr 6
                    have fr7 := blk_free gr 7
                    obtain ⟨cr0, cr1, cr2, cr3, cr4, cr5, cr6, cr7⟩ := cell8 gr
                    obtain ⟨cn0, cn1, cn2, cn3, cn4, cn5, cn6, cn7⟩ := cell8 gn
                    have hltr := blk_lt gr
                    have hltn := blk_lt gn
                    have GR := Lib.hid gr
                    have HBX : Hid (Below w.heap.size w w8) := Lib.hid (HBW3.out.trans (HK8.out.below HBW3.out.size fun i hi h => by have := HNUM.out; omega))
                    clear gr gn
                    go_wp2_with fail
                    have Z := cell8 (blk8 GR.out (.string ⟨#[]⟩) (.string ⟨#[]⟩) (.string ⟨#[]⟩) (.string ⟨#[]⟩) (.bool false) (.bool false) (.int .i64 0) (.slice none 0 0))
                    have kb := keep8 w8 w.heap.size (.string ⟨#[]⟩) (.string ⟨#[]⟩) (.string ⟨#[]⟩) (.string ⟨#[]⟩) (.bool false) (.bool false) (.int .i64 0) (.slice none 0 0)
                    unfold put8 at Z kb
                    obtain ⟨z0, z1, z2, z3, z4, z5, z6, z7⟩ := Z
                    rw [HQX.out] at hR
                    exact bodyPost_ret (v := .tuple #[.agg #[.string ⟨#[]⟩, .string ⟨#[]⟩, .string ⟨#[]⟩, .string ⟨#[]⟩, .bool false, .bool false, .int .i64 0, .slice none 0 0], .int .i64 8]) (by simp [results, Tryd.results11, go_sem, z0, z1, z2, z3, z4, z5, z6, z7]) rfl (hR _ _ ⟨.slice none 0 0, rfl, View.nil _ _ _, HBX.out.trans (kb.below (by exact HBX.out.size) fun i hi e => by omega)⟩)
            · have hz : ((k : Int) == 0) = false := by rw [HZ.out]; simpa using hk0
              have HKZ : Hid (0 < k) := Lib.hid (by omega)
              clear hk0
              cases hu : (W.toList == [117, 114, 108]) with
              | true =>
                have HQX : Hid (queryN (toL s) = ({}, 8)) := Lib.hid (none_url (toL s) k x HXL.out (by rw [HCUT.out, HLS.out]; exact HNM.out) (by
                  rw [HCUT.out, ← HWD.out.2, show (W.toList == wUrl) = true from hu]
                  have := HKZ.out
                  intro e
                  have : k = 0 := by simpa using e.symm
                  omega))
                have gr := (HG5.out)
                have gn := (HN5.out)
                have fr0 := blk_free gr 0
                have fr1 := blk_free gr 1
                have fr2 := blk_free gr 2
                have fr3 := blk_free gr 3
                have fr4 := blk_free gr 4
                have fr5 := blk_free gr 5
                have fr6 := blk_free gr 6
                have fr7 := blk_free gr 7
                obtain ⟨cr0, cr1, cr2, cr3, cr4, cr5, cr6, cr7⟩ := cell8 gr
                obtain ⟨cn0, cn1, cn2, cn3, cn4, cn5, cn6, cn7⟩ := cell8 gn
                have hltr := blk_lt gr
                have hltn := blk_lt gn
                have GR := Lib.hid gr
                have HBX : Hid (Below w.heap.size w w5) := Lib.hid (HBW5.out)
                clear gr gn
                go_wp2_with fail
                have Z := cell8 (blk8 GR.out (.string ⟨#[]⟩) (.string ⟨#[]⟩) (.string ⟨#[]⟩) (.string ⟨#[]⟩) (.bool false) (.bool false) (.int .i64 0) (.slice none 0 0))
                have kb := keep8 w5 w.heap.size (.string ⟨#[]⟩) (.string ⟨#[]⟩) (.string ⟨#[]⟩) (.string ⟨#[]⟩) (.bool false) (.bool false) (.int .i64 0) (.slice none 0 0)
                unfold put8 at Z kb
                obtain ⟨z0, z1, z2, z3, z4, z5, z6, z7⟩ := Z
                rw [HQX.out] at hR
                exact bodyPost_ret (v := .tuple #[.agg #[.string ⟨#[]⟩, .string ⟨#[]⟩, .string ⟨#[]⟩, .string ⟨#[]⟩, .bool false, .bool false, .int .i64 0, .slice none 0 0], .int .i64 8]) (by simp [results, Tryd.results11, go_sem, z0, z1, z2, z3, z4, z5, z6, z7]) rfl (hR _ _ ⟨.slice none 0 0, rfl, View.nil _ _ _, HBX.out.trans (kb.below (by exact HBX.out.size) fun i hi e => by omega)⟩)
              | false =>
                have HCW : Hid ((cutAt 32 x).1 = wd) := Lib.hid HCUT.out
                go_upto_if 59 with fail
                go_cut [7] (fun mv wc => Own Rp.str 9 wc (fun j => mv.ownBlock = some j) (if wd == wHeader then (linesQ (ls.take k)).met else (linesQ (ls.take k)).met ++ [wd]) mv ∧ QIn wc (fun j => b < j ∧ ¬ mv.ownBlock = some j) b (linesQ (ls.take k)).q F ∧ (∀ j, mv.ownBlock = some j → b < j) ∧ Keep (fun j => b ≤ j) w5 wc)
                case first =>
                  cases hh : (W.toList == [104, 101, 97, 100, 101, 114]) with
                  | true =>
                    have he : (wd == wHeader) = true := by rw [← HWD.out.2]; exact hh
                    have HE := Lib.hid he
                    clear he
                    go_wp2_with fail
                    go_meet
                    rw [if_pos HE.out]
                    exact ⟨HM5.out, HQ5.out, HMB.out, Keep.refl _ _⟩
                  | false =>
                    have he : ¬ (wd == wHeader) = true := by rw [← HWD.out.2]; intro e; rw [show (W.toList == wHeader) = (W.toList == [104, 101, 97, 100, 101, 114]) from rfl, hh] at e; exact absurd e (by decide)
                    have HE := Lib.hid he
                    clear he
                    go_wp2_with (with_reducible (first | refine stop_append ?_))
                    refine ⟨wp_append1 (r := Rp.str) (F := fun j => u7.ownBlock = some j) (G := fun _ => False) (y := wd) Tryd.underlying36 info9 rfl (by decide) HM5.out rfl rfl (by show [Value.string W] = [Value.string (ofL wd)]; rw [← HWD.out.1, ofL_toL]) (fun _ h => h.elim) (by omega) (by decide) ?_⟩
                    intro v1 wa ho1 hk1 _ hb1
                    have hbw : b < w5.heap.size := HQ5.out.lt
                    have hq1 := (HQ5.out.mono (S' := fun j => b < j ∧ ¬ u7.ownBlock = some j ∧ ¬ v1.ownBlock = some j) (fun j hj h => ⟨h.1, h.2, fun e => by
                      rcases hb1 with h1 | ⟨i, h1, h2⟩
                      · rw [h1] at e; exact h.2 e
                      · rw [h1] at e; cases e; omega⟩) (fun h => by omega)).keep hk1 (fun j hj h e => by
                      rcases h with h | h
                      · exact h.2.1 e.symm
                      · rw [h] at e; have := HMB.out b e.symm; omega)
                    have HQA := Lib.hid (hq1.mono (S' := fun j => b < j ∧ ¬ v1.ownBlock = some j) (fun j hj h => ⟨h.1, h.2.2⟩) (fun h => by omega))
                    have HOA := Lib.hid (own_self ho1)
                    have HMA : Hid (∀ j, v1.ownBlock = some j → b < j) := Lib.hid fun j hj => by
                      rcases hb1 with h1 | ⟨i, h1, h2⟩
                      · rw [h1] at hj; exact HMB.out j hj
                      · rw [h1] at hj; cases hj; omega
                    have HKA := Lib.hid (hk1.mono (F := fun j => some j = u7.ownBlock) (fun j _ e => show b ≤ j from Nat.le_of_lt (HMB.out j e.symm)))
                    clear hq1 ho1 hk1 hb1 hbw
                    go_wp2_with fail
                    go_meet
                    rw [if_neg HE.out]
                    exact ⟨HOA.out, HQA.out, HMA.out, HKA.out⟩
                case rest =>
                  obtain ⟨hom, hqm, hmb, hkm⟩ := hcut
                  have HOM := Lib.hid hom; have HQM := Lib.hid hqm; have HMM := Lib.hid hmb
                  have HVC : Hid (View Rp.str wc (fun k => k < b) ls (.slice (some ⟨g, off, none⟩) ls.length c)) := Lib.hid ((HVR.out.below HB5.out).keep hkm fun j h e => by omega)
                  have HGC : Hid (wc.heap[w.heap.size]? = _) := Lib.hid (hkm.blk HG5.out (by have := HNUM.out; show ¬ b ≤ _; omega))
                  have HNC : Hid (wc.heap[w.heap.size + 1]? = _) := Lib.hid (hkm.blk HN5.out (by have := HNUM.out; show ¬ b ≤ _; omega))
                  have HKC : Hid (Keep (fun j => b ≤ j) w3 wc) := Lib.hid ((HKP.out.trans (Keep.old (F := fun j => b ≤ j) HB5.out) fun _ _ h => h).trans hkm fun _ _ h => h)
                  clear hom hqm hmb hkm d0 d5
                  obtain ⟨A', c', e, _, hget⟩ := HVC.out.open1
                  cases e
                  obtain ⟨g', off', e', hg', hgx⟩ := hget k hlt
                  cases e'
                  have d0 : wc.cell? ⟨g, off + k, none⟩ = some (.string (ofL x)) := hgx k x HXK.out
                  rw [show ofL x = X by rw [← HX.out, ofL_toL]] at d0
                  clear hget hgx
                  go_wp2_with fail
                  refine (word_any wc _ b _ F HQM.out (by omega) X hXs).mono ?_
                  rintro e w8 ⟨rfl, F8, hq8, hk8⟩
                  rw [HX.out] at hq8 ⊢
                  have hq9 := hq8.mono (S' := fun j => b < j ∧ ¬ Value.ownBlock _ = some j) (fun j hj h => by
                    rcases h with h | h
                    · exact h
                    · exact ⟨by have := HQM.out.lt; omega, fun e => by have := own_lt2 HOM.out e; omega⟩) (fun h => by omega)
                  have HQ8 := Lib.hid hq9
                  have HO8 := Lib.hid (HOM.out.keep hk8 fun j hj h => by
                    rcases h with h | h
                    · exact h.2 hj
                    · have := HMM.out j hj; omega)
                  have HK8 : Hid (Keep (fun j => b ≤ j) w3 w8) := Lib.hid (HKC.out.trans hk8 fun j _ h => by
                    rcases h with h | h
                    · exact Nat.le_of_lt h.1
                    · omega)
                  clear hq8 hq9 hk8
                  obtain ⟨wb, hwb⟩ : ∃ t, (wordR (linesQ (ls.take k)).q x).1 = t := ⟨_, rfl⟩
                  rw [hwb]
                  cases wb with
                  | true =>
                    have HT : Hid (linesQ (ls.take (k + 1)) = ⟨(wordR (linesQ (ls.take k)).q x).2, if wd == wHeader then (linesQ (ls.take k)).met else (linesQ (ls.take k)).met ++ [wd], false⟩) := Lib.hid (by
                      rw [line_at ls k x HXK.out, good_line _ x HGOOD.out (by rw [HCW.out]; exact HNM.out) hwb, HCW.out])
                    have HU1 : Hid (((toL s).take 4 == [117, 114, 108, 32]) = true) := Lib.hid (HPRE.out HKZ.out)
                    clear hwb
                    go_wp2_with fail
                    go_roundw
                    case rel =>
                      refine ⟨k + 1, F8, by omega, by go_num, by rw [HT.out], fun _ => HU1.out, by rw [HT.out]; exact HQ8.out, by rw [HT.out]; exact HO8.out, HMM.out, HK8.out⟩
                    case measure => simp [intOf]; omega
                  | false =>
                    have HQX : Hid (queryN (toL s) = ({}, 8)) := Lib.hid (bad_line (toL s) k x HXL.out (by rw [HLS.out]; exact HGOOD.out) (by rw [HCW.out, HLS.out]; exact HNM.out) (by rw [HLS.out]; exact hwb))
                    have HG8 : Hid (w8.heap[w.heap.size]? = _) := Lib.hid (HK8.out.blk HG3.out (by have := HNUM.out; show ¬ b ≤ _; omega))
                    have HN8 : Hid (w8.heap[w.heap.size + 1]? = _) := Lib.hid (HK8.out.blk HN3.out (by have := HNUM.out; show ¬ b ≤ _; omega))
                    clear hwb
                    have gr := (HG8.out)
                    have gn := (HN8.out)
                    have fr0 := blk_free gr 0
                    have fr1 := blk_free gr 1
                    have fr2 := blk_free gr 2
                    have fr3 := blk_free gr 3
                    have fr4 := blk_free gr 4
                    have fr5 := blk_free gr 5
                    have fr6 := blk_free gr 6
                    have fr7 := blk_free gr 7
                    obtain ⟨cr0, cr1, cr2, cr3, cr4, cr5, cr6, cr7⟩ := cell8 gr
                    obtain ⟨cn0, cn1, cn2, cn3, cn4, cn5, cn6, cn7⟩ := cell8 gn
                    have hltr := blk_lt gr
                    have hltn := blk_lt gn
                    have GR := Lib.hid gr
                    have HBX : Hid (Below w.heap.size w w8) := Lib.hid (HBW3.out.trans (HK8.out.below HBW3.out.size fun i hi h => by have := HNUM.out; omega))
                    clear gr gn
                    go_wp2_with fail
                    have Z := cell8 (blk8 GR.out (.string ⟨#[]⟩) (.string ⟨#[]⟩) (.string ⟨#[]⟩) (.string ⟨#[]⟩) (.bool false) (.bool false) (.int .i64 0) (.slice none 0 0))
                    have kb := keep8 w8 w.heap.size (.string ⟨#[]⟩) (.string ⟨#[]⟩) (.string ⟨#[]⟩) (.string ⟨#[]⟩) (.bool false) (.bool false) (.int .i64 0) (.slice none 0 0)
                    unfold put8 at Z kb
                    obtain ⟨z0, z1, z2, z3, z4, z5, z6, z7⟩ := Z
                    rw [HQX.out] at hR
                    exact bodyPost_ret (v := .tuple #[.agg #[.string ⟨#[]⟩, .string ⟨#[]⟩, .string ⟨#[]⟩, .string ⟨#[]⟩, .bool false, .bool false, .int .i64 0, .slice none 0 0], .int .i64 8]) (by simp [results, Tryd.results11, go_sem, z0, z1, z2, z3, z4, z5, z6, z7]) rfl (hR _ _ ⟨.slice none 0 0, rfl, View.nil _ _ _, HBX.out.trans (kb.below (by exact HBX.out.size) fun i hi e => by omega)⟩)
        · obtain rfl : k = ls.length := by omega
          have hgd := HGOOD.out
          rw [List.take_length] at HQR hgd
          have HQX : Hid (queryN (toL s) = ((linesQ ls).q, 0)) := Lib.hid (by
            have := good_end (toL s) (by rw [toL_len]; omega) HNE.out (by rw [HLS.out]; exact hgd) (fun hne => HPRE.out (by rw [HLS.out] at hne; exact List.length_pos_iff.2 hne))
            rw [HLS.out] at this; exact this)
          rw [HQX.out] at hR
          obtain ⟨q, hq⟩ : ∃ q, (linesQ ls).q = q := ⟨_, rfl⟩
          rw [hq] at hR HQR
          clear hq hgd HQX
          obtain ⟨FA, fn, rfl, hfn⟩ := HQR.out.hds.slice
          obtain ⟨c0, c1, c2, c3, c4, c5, c6, c7⟩ := cell8 HQR.out.blk
          have hltb := HQR.out.lt
          have gr := HGR.out
          have fr0 := blk_free gr 0
          have fr1 := blk_free gr 1
          have fr2 := blk_free gr 2
          have fr3 := blk_free gr 3
          have fr4 := blk_free gr 4
          have fr5 := blk_free gr 5
          have fr6 := blk_free gr 6
          have fr7 := blk_free gr 7
          obtain ⟨cr0, cr1, cr2, cr3, cr4, cr5, cr6, cr7⟩ := cell8 gr
          have hltr := blk_lt gr
          have GR := Lib.hid gr
          have HF := Lib.hid HQR.out.hds.view
          have HNEQ : Hid (∀ j, (Value.slice FA q.hds.length fn).ownBlock = some j → ¬ j = w.heap.size) := Lib.hid fun j hj e => by
            have h1 := (HQR.out.inF j hj).1; have := HNUM.out; omega
          clear gr hfn
          go_wp2_with fail
          have Z := cell8 (blk8 GR.out (.string (ofL q.doc)) (.string (ofL q.url)) (.string (ofL q.dest)) (.string (ofL q.meth)) (.bool q.cors) (.bool q.creds) (.int .i64 q.redir) (.slice FA q.hds.length fn))
          have kb := keep8 wr w.heap.size (.string (ofL q.doc)) (.string (ofL q.url)) (.string (ofL q.dest)) (.string (ofL q.meth)) (.bool q.cors) (.bool q.creds) (.int .i64 q.redir) (.slice FA q.hds.length fn)
          unfold put8 at Z kb
          obtain ⟨z0, z1, z2, z3, z4, z5, z6, z7⟩ := Z
          exact bodyPost_ret (v := .tuple #[.agg #[.string (ofL q.doc), .string (ofL q.url), .string (ofL q.dest), .string (ofL q.meth), .bool q.cors, .bool q.creds, .int .i64 q.redir, .slice FA q.hds.length fn], .int .i64 0]) (by simp [results, Tryd.results11, go_sem, z0, z1, z2, z3, z4, z5, z6, z7]) rfl (hR _ _ ⟨.slice FA q.hds.length fn, rfl, (HF.out.keep kb HNEQ.out).mono fun _ _ => trivial, HBR.out.trans (kb.below (by exact HBR.out.size) fun i hi e => by omega)⟩)
end Go.Proofs.YtilpaopkhghicaaDoor.Asc
