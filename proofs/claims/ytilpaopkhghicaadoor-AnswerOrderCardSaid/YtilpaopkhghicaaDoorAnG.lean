/-
  Contract: a text as a query.
  Lengths within the rows' own reach; the library's MaxLen is a number.
-/
import Derived.Test.YtilpaopkhghicaaDoorAnF
import Derived.Test.YtilpaopkhghicaaDoorAscG
import Derived.Carry
namespace Go.Proofs.YtilpaopkhghicaaDoor.Asc
open Go Go.RowKit Go.Proofs.YtilpaopkhghicaaDoor.Pb

theorem split_len (s : List UInt8) (sep : UInt8) : (split s sep).length ≤ s.length + 1 := by
  rw [split_eq]
  induction s with
  | nil => simp [splitR]
  | cons c l ih =>
    unfold splitR
    split
    · simp; omega
    · have hne := splitR_ne sep l
      cases hs : splitR sep l with
      | nil => exact (hne hs).elim
      | cons a b => rw [hs] at ih; simp at ih ⊢; omega
theorem split_ne (s : List UInt8) (sep : UInt8) : split s sep ≠ [] := by rw [split_eq]; exact splitR_ne sep s
theorem split_small (s : List UInt8) (sep : UInt8) : ∀ x ∈ split s sep, x.length ≤ s.length := by
  rw [split_eq]
  induction s with
  | nil => intro x hx; simp [splitR] at hx; rw [hx]; simp
  | cons c l ih =>
    intro x hx
    unfold splitR at hx
    split at hx
    · rcases List.mem_cons.1 hx with rfl | hx
      · simp
      · have := ih x hx; simp; omega
    · cases hs : splitR sep l with
      | nil => exact (splitR_ne sep l hs).elim
      | cons a b =>
        rw [hs] at hx ih
        rcases List.mem_cons.1 hx with rfl | hx
        · have := ih a (by simp); simp; omega
        · have := ih x (by simp [hx]); simp; omega

theorem metN_len (st : QS) (w : List UInt8) : (metN st w).met.length ≤ st.met.length + 1 ∧ (metN st w).q = st.q := by
  unfold metN; split
  · exact ⟨Nat.le_succ _, rfl⟩
  · exact ⟨by simp, rfl⟩
theorem lineQ_len (st : QS) (l : List UInt8) : (lineQ st l).met.length ≤ st.met.length + 1 ∧ (lineQ st l).q.hds.length ≤ st.q.hds.length + 1 := by
  obtain ⟨h1, h2⟩ := metN_len st (cutAt 32 l).1
  have key : ∀ (sm : QS) (x r : List UInt8) (ok : Bool), (wordN sm x r ok).met = sm.met ∧ (wordN sm x r ok).q.hds.length ≤ sm.q.hds.length + 1 := by
    intro sm x r ok
    unfold wordN headN
    repeat' split
    all_goals first | exact ⟨rfl, Nat.le_succ _⟩ | exact ⟨rfl, by simp⟩
  obtain ⟨k1, k2⟩ := key (metN st (cutAt 32 l).1) (cutAt 32 l).1 (cutAt 32 l).2 (l.contains 32)
  unfold lineQ
  exact ⟨by rw [k1]; exact h1, by rw [h2] at k2; exact k2⟩
theorem linesQ_len (ls : List (List UInt8)) : ∀ k, k ≤ ls.length → (linesQ (ls.take k)).met.length ≤ k ∧ (linesQ (ls.take k)).q.hds.length ≤ k := by
  intro k
  induction k with
  | zero => intro _; simp [linesQ]
  | succ k ih =>
    intro hk
    obtain ⟨h1, h2⟩ := ih (by omega)
    rw [List.take_add_one, List.getElem?_eq_getElem (show k < ls.length by omega), Option.toList_some, linesQ_snoc]
    obtain ⟨k1, k2⟩ := lineQ_len (linesQ (ls.take k)) ls[k]
    omega
theorem linesOf_facts (s : List UInt8) : (linesOf s).length ≤ s.length + 1 ∧ ∀ x ∈ linesOf s, x.length ≤ s.length := by
  have h1 := split_len s 10
  have h2 := split_small s 10
  unfold linesOf
  split
  · exact ⟨by rw [List.length_dropLast]; omega, fun x hx => h2 x (List.dropLast_subset _ hx)⟩
  · exact ⟨h1, h2⟩
theorem metAt_new (w : World) : MetAt (w.alloc (.map #[] 0)) w.heap.size [] :=
  ⟨0, _, World.ownsMap_made w _ _ _, Nat.le_refl _, fun s => rfl⟩
/-- the kit's word for a query that is none -/
def agg8 (q : Qr) (F : Value) : Value := .agg #[.string (ofL q.doc), .string (ofL q.url), .string (ofL q.dest), .string (ofL q.meth), .bool q.cors, .bool q.creds, .int .i64 q.redir, F]

/-- a query's eight cells are stored -/
def put8 (w : World) (r : Nat) (v0 v1 v2 v3 v4 v5 v6 v7 : Value) : World := ((((((((w.setCell ⟨r, 0, none⟩ v0).setCell ⟨r, 1, none⟩ v1).setCell ⟨r, 2, none⟩ v2).setCell ⟨r, 3, none⟩ v3).setCell ⟨r, 4, none⟩ v4).setCell ⟨r, 5, none⟩ v5).setCell ⟨r, 6, none⟩ v6).setCell ⟨r, 7, none⟩ v7)
theorem keep8 (w : World) (r : Nat) (v0 v1 v2 v3 v4 v5 v6 v7 : Value) : Keep (fun k => k = r) w (put8 w r v0 v1 v2 v3 v4 v5 v6 v7) := (((((((((Keep.refl (fun k => k = r) w).set (p := ⟨r, 0, none⟩) rfl v0).set (p := ⟨r, 1, none⟩) rfl v1).set (p := ⟨r, 2, none⟩) rfl v2).set (p := ⟨r, 3, none⟩) rfl v3).set (p := ⟨r, 4, none⟩) rfl v4).set (p := ⟨r, 5, none⟩) rfl v5).set (p := ⟨r, 6, none⟩) rfl v6).set (p := ⟨r, 7, none⟩) rfl v7)
theorem blk8 {w : World} {r : Nat} {a0 a1 a2 a3 a4 a5 a6 a7 : Value} {t : TypeId} (h : w.heap[r]? = some (.cells #[a0, a1, a2, a3, a4, a5, a6, a7] t (0, 0))) (v0 v1 v2 v3 v4 v5 v6 v7 : Value) :
    (put8 w r v0 v1 v2 v3 v4 v5 v6 v7).heap[r]? = some (.cells #[v0, v1, v2, v3, v4, v5, v6, v7] t (0, 0)) := by
  have := (blk_set (blk_set (blk_set (blk_set (blk_set (blk_set (blk_set (blk_set h 0 v0) 1 v1) 2 v2) 3 v3) 4 v4) 5 v5) 6 v6) 7 v7)
  simpa [put8] using this
theorem cell8 {w : World} {r : Nat} {v0 v1 v2 v3 v4 v5 v6 v7 : Value} {t : TypeId} (h : w.heap[r]? = some (.cells #[v0, v1, v2, v3, v4, v5, v6, v7] t (0, 0))) :
    w.cell? ⟨r, 0, none⟩ = some v0 ∧ w.cell? ⟨r, 1, none⟩ = some v1 ∧ w.cell? ⟨r, 2, none⟩ = some v2 ∧ w.cell? ⟨r, 3, none⟩ = some v3 ∧ w.cell? ⟨r, 4, none⟩ = some v4 ∧ w.cell? ⟨r, 5, none⟩ = some v5 ∧ w.cell? ⟨r, 6, none⟩ = some v6 ∧ w.cell? ⟨r, 7, none⟩ = some v7 :=
  ⟨blk_cell h 0, blk_cell h 1, blk_cell h 2, blk_cell h 3, blk_cell h 4, blk_cell h 5, blk_cell h 6, blk_cell h 7⟩

set_option maxHeartbeats 8000000 in
set_option maxRecDepth 20000 in
theorem query_any (s : ByteArray) (hs : s.size ≤ 90000) (m : Int) (w : World) (hm : MaxLen m w) :
    Calls Tryd.prog 10 #[.string s] w fun e w' => ∃ fv, e = .returned (.tuple #[agg8 (queryN (toL s)).1 fv, .int .i64 (queryN (toL s)).2]) ∧ View fld w' (fun _ => True) (queryN (toL s)).1.hds fv ∧ Below w.heap.size w w' := by
  refine calls_gen fun R hR => ?_
  have HM := Lib.hid hm
  clear hm
  obtain ⟨w1, hw1⟩ : ∃ w1, w.alloc (.cells #[.string ⟨#[]⟩, .string ⟨#[]⟩, .string ⟨#[]⟩, .string ⟨#[]⟩, .bool false, .bool false, .int .i64 0, .slice none 0 0] 25) = w1 := ⟨_, rfl⟩
  have HW1 := Lib.hid hw1
  have HB1 : Hid (Below w.heap.size w w1) := Lib.hid (hw1 ▸ below_new w _)
  have HG1 : Hid (w1.heap[w.heap.size]? = some (.cells #[.string ⟨#[]⟩, .string ⟨#[]⟩, .string ⟨#[]⟩, .string ⟨#[]⟩, .bool false, .bool false, .int .i64 0, .slice none 0 0] 25 (0, 0))) := Lib.hid (hw1 ▸ blk_new w _)
  have HM1 := Lib.hid (HM.out.below HB1.out)
  clear hw1
  go_enter Tryd.func10, Tryd.ntmps10
  go_upto_region 1 with fail
  rw [HW1.out]
  by_cases hbig : (s.size : Int) > 4000
  · have hq : queryN (toL s) = ({}, 8) := by
      unfold queryN; rw [if_pos]; rw [show decide ((toL s).length > 4000) = true from decide_eq_true (by rw [toL_len]; omega)]; rfl
    rw [hq] at hR
    clear hq
    have gr := HG1.out
    have fr0 := blk_free gr 0
    have fr1 := blk_free gr 1
    have fr2 := blk_free gr 2
    have fr3 := blk_free gr 3
    have fr4 := blk_free gr 4
    have fr5 := blk_free gr 5
    have fr6 := blk_free gr 6
    have fr7 := blk_free gr 7
    obtain ⟨cr0, cr1, cr2, cr3, cr4, cr5, cr6, cr7⟩ := cell8 gr
    have hltr := blk_lt gr
    clear gr
    go_wp2_with fail
    have Z := cell8 (blk8 HG1.out (.string ⟨#[]⟩) (.string ⟨#[]⟩) (.string ⟨#[]⟩) (.string ⟨#[]⟩) (.bool false) (.bool false) (.int .i64 0) (.slice none 0 0))
    unfold put8 at Z
    obtain ⟨z0, z1, z2, z3, z4, z5, z6, z7⟩ := Z
    have kb := keep8 w1 w.heap.size (.string ⟨#[]⟩) (.string ⟨#[]⟩) (.string ⟨#[]⟩) (.string ⟨#[]⟩) (.bool false) (.bool false) (.int .i64 0) (.slice none 0 0)
    unfold put8 at kb
    exact bodyPost_ret (v := .tuple #[.agg #[.string ⟨#[]⟩, .string ⟨#[]⟩, .string ⟨#[]⟩, .string ⟨#[]⟩, .bool false, .bool false, .int .i64 0, .slice none 0 0], .int .i64 8]) (by simp [results, Tryd.results10, go_sem, z0, z1, z2, z3, z4, z5, z6, z7]) rfl (hR _ _ ⟨.slice none 0 0, rfl, View.nil _ _ _, HB1.out.trans (kb.below (by exact HB1.out.size) fun i hi e => by omega)⟩)
  have hpre : Hid (Lib.hasPrefix s.data.toList [117, 114, 108, 32] = ((toL s).take 4 == [117, 114, 108, 32])) := Lib.hid (by
    show Lib.hasPrefix (toL s) [117, 114, 108, 32] = _
    unfold Lib.hasPrefix
    rw [Bool.eq_iff_iff, List.isPrefixOf_iff_prefix, beq_iff_eq, List.prefix_iff_eq_take]
    exact ⟨fun h => h.symm, fun h => h.symm⟩)
  go_wp2_with fail
  refine (Tryd.strings_HasPrefix s ⟨#[117, 114, 108, 32]⟩ w1).mono ?_
  rintro e w2 ⟨rfl, hw2⟩
  rw [hw2, show (⟨#[117, 114, 108, 32]⟩ : ByteArray).data.toList = [117, 114, 108, 32] from rfl, hpre.out]
  clear hw2
  cases hp : (toL s).take 4 == [117, 114, 108, 32] with
  | false =>
    have hq : queryN (toL s) = ({}, 8) := by
      unfold queryN; rw [if_pos]; rw [hp]; simp
    rw [hq] at hR
    clear hq hp
    have gr := HG1.out
    have fr0 := blk_free gr 0
    have fr1 := blk_free gr 1
    have fr2 := blk_free gr 2
    have fr3 := blk_free gr 3
    have fr4 := blk_free gr 4
    have fr5 := blk_free gr 5
    have fr6 := blk_free gr 6
    have fr7 := blk_free gr 7
    obtain ⟨cr0, cr1, cr2, cr3, cr4, cr5, cr6, cr7⟩ := cell8 gr
    have hltr := blk_lt gr
    clear gr
    go_wp2_with fail
    have Z := cell8 (blk8 HG1.out (.string ⟨#[]⟩) (.string ⟨#[]⟩) (.string ⟨#[]⟩) (.string ⟨#[]⟩) (.bool false) (.bool false) (.int .i64 0) (.slice none 0 0))
    unfold put8 at Z
    obtain ⟨z0, z1, z2, z3, z4, z5, z6, z7⟩ := Z
    have kb := keep8 w1 w.heap.size (.string ⟨#[]⟩) (.string ⟨#[]⟩) (.string ⟨#[]⟩) (.string ⟨#[]⟩) (.bool false) (.bool false) (.int .i64 0) (.slice none 0 0)
    unfold put8 at kb
    exact bodyPost_ret (v := .tuple #[.agg #[.string ⟨#[]⟩, .string ⟨#[]⟩, .string ⟨#[]⟩, .string ⟨#[]⟩, .bool false, .bool false, .int .i64 0, .slice none 0 0], .int .i64 8]) (by simp [results, Tryd.results10, go_sem, z0, z1, z2, z3, z4, z5, z6, z7]) rfl (hR _ _ ⟨.slice none 0 0, rfl, View.nil _ _ _, HB1.out.trans (kb.below (by exact HB1.out.size) fun i hi e => by omega)⟩)
  | true =>
    have HP := Lib.hid hp
    clear hp
    go_wp2_with fail
    refine (split_any s 10 m w1 (by omega) HM1.out).mono ?_
    rintro e w2 ⟨v, rfl, ho, hb2⟩
    have hne := split_ne (toL s) 10
    obtain ⟨LS, hLS⟩ : ∃ l, split (toL s) 10 = l := ⟨_, rfl⟩
    rw [hLS] at ho hne
    obtain ⟨A, c, rfl, hc⟩ := ho.slice
    have hlen : 0 < LS.length := List.length_pos_iff.2 hne
    obtain ⟨A', c', e, hcl, hget⟩ := ho.view.open1
    cases e
    obtain ⟨g, off, rfl, hg, hgx⟩ := hget 0 hlen
    obtain ⟨x, hx⟩ : ∃ x, LS[LS.length - 1]? = some x := ⟨_, List.getElem?_eq_getElem (by omega)⟩
    have d0 : w2.cell? ⟨g, off + (LS.length - 1), none⟩ = some (.string (ofL x)) := hgx _ x hx
    obtain ⟨X, hX⟩ : ∃ X, ofL x = X := ⟨_, rfl⟩
    have HX : Hid (X.toList = x) := Lib.hid (by rw [← hX, toList_ofL])
    rw [hX] at d0
    have hll : LS.length ≤ 90001 := by rw [← hLS]; have := split_len (toL s) 10; rw [toL_len] at this; omega
    have HV := Lib.hid ho.view; have HB2 := Lib.hid hb2
    have HLN : Hid (linesOf (toL s) = if x = [] then LS.take (LS.length - 1) else LS) := Lib.hid (by
      unfold linesOf
      rw [hLS, List.getLast?_eq_getElem?, hx, List.dropLast_eq_take]
      by_cases h : x = [] <;> simp [h])
    have hi0 : (0 : Int) ≤ (LS.length : Int) - 1 := by omega
    have hi1 : (LS.length : Int) - 1 < (LS.length : Int) := by omega
    have hi2 : ((LS.length : Int) - 1).toNat = LS.length - 1 := by omega
    have hi3 : LS.length - 1 < LS.length := by omega
    have hi4 : (LS.length : Int) - 1 ≤ (c : Int) := by omega
    clear hb2 ho hLS hget hgx hx hne hX
    go_upto_if 25 with fail
    go_cut [4] (fun v wc => wc = w2 ∧ ∃ A c, v = .slice A (linesOf (toL s)).length c ∧ View Rp.str w2 (fun k => w1.heap.size ≤ k ∧ k < w2.heap.size) (linesOf (toL s)) v)
    case first =>
      cases hxe : X.toList.isEmpty with
      | true =>
        have hx0 : x = [] := by rw [HX.out] at hxe; exact List.isEmpty_iff.1 hxe
        have hln := HLN.out
        rw [if_pos hx0] at hln
        have HL2 := Lib.hid hln
        clear hln
        go_wp2_with fail
        go_meet
        rw [HL2.out, List.length_take, Nat.min_eq_left (by omega)]
        exact ⟨rfl, _, c, rfl, (View.take HV.out (LS.length - 1) (by omega) (fun e => by cases e)).bnd⟩
      | false =>
        have hx0 : ¬ x = [] := fun e => by rw [HX.out, e] at hxe; cases hxe
        have hln := HLN.out
        rw [if_neg hx0] at hln
        have HL2 := Lib.hid hln
        clear hln
        go_wp2_with fail
        go_meet
        rw [HL2.out]
        exact ⟨rfl, _, c, rfl, HV.out.bnd⟩
    case rest =>
      obtain ⟨hwc, A, c, rfl, hv⟩ := hcut
      rw [hwc]
      obtain ⟨hq1, hq2⟩ := linesOf_facts (toL s)
      rw [toL_len] at hq1 hq2
      obtain ⟨ls, hls⟩ : ∃ l, linesOf (toL s) = l := ⟨_, rfl⟩
      have HQ : Hid (queryN (toL s) = if (linesQ ls).bad then ({}, 8) else ((linesQ ls).q, 0)) := Lib.hid (by
        unfold queryN
        rw [if_neg, hls]
        rw [HP.out, show decide ((toL s).length > 4000) = false from decide_eq_false (by rw [toL_len]; omega)]; decide)
      rw [HQ.out] at hR
      rw [hls] at hv hq1 hq2 ⊢
      have HX2 := Lib.hid hq2; have HV2 := Lib.hid hv
      clear hwc hls hv HQ hq2 d0 HLN HX hi0 hi1 hi2 hi3 hi4 hll hlen hc hcl HV hg
      have hlt2 : w1.heap.size ≤ w2.heap.size := HB2.out.size
      have hwlt : w.heap.size < w1.heap.size := blk_lt HG1.out
      obtain ⟨b, hb⟩ : ∃ b, w2.heap.size + 1 = b := ⟨_, rfl⟩
      obtain ⟨w3, hw3⟩ : ∃ w3, (w2.alloc (.map #[] 0)).alloc (.cells #[.slice A ls.length c, .bool false, .string ⟨#[]⟩, .string ⟨#[]⟩, .string ⟨#[]⟩, .string ⟨#[71, 69, 84]⟩, .bool false, .bool false, .int .i64 0, .slice none 0 0, .map (some w2.heap.size)] 61) = w3 := ⟨_, rfl⟩
      have HW3 := Lib.hid hw3
      have hb3 : Below w2.heap.size w2 w3 := hw3 ▸ ((Below.refl w2.heap.size w2).alloc (Nat.le_refl _) _).alloc (by simp) _
      have hbk : w3.heap[b]? = some (.cells (rcells {} (.slice A ls.length c) (.slice none 0 0) w2.heap.size).toArray 61 (0, 0)) := by
        have := blk_new (w2.alloc (.map #[] 0)) (.cells #[.slice A ls.length c, .bool false, .string ⟨#[]⟩, .string ⟨#[]⟩, .string ⟨#[]⟩, .string ⟨#[71, 69, 84]⟩, .bool false, .bool false, .int .i64 0, .slice none 0 0, .map (some w2.heap.size)] 61)
        simp only [World.size_alloc] at this
        rw [← hw3, ← hb]; exact this
      have hmp : MetAt w3 w2.heap.size [] := (metAt_new w2).move (by rw [← hw3]; exact Below.heap_alloc _ _ _ (by simp))
      have HR3 : Hid (RdAt w3 (fun k => w2.heap.size ≤ k ∧ k ≠ b) b {} (.slice A ls.length c)) := Lib.hid ⟨.slice none 0 0, w2.heap.size, hbk, Own.nil _ _ _ _, hmp, fun k h => by simp [Value.ownBlock] at h, ⟨Nat.le_refl _, by omega⟩, fun h => h.2 rfl, by simp [Value.ownBlock]⟩
      have HV3 := Lib.hid (HV2.out.below hb3)
      have HB3 := Lib.hid hb3
      have hbl : b < w3.heap.size := blk_lt hbk
      have HNUM : Hid (w1.heap.size ≤ w2.heap.size ∧ w.heap.size < w1.heap.size ∧ w2.heap.size + 1 = b ∧ b < w3.heap.size) := Lib.hid ⟨hlt2, hwlt, hb, hbl⟩
      clear hw3 hb3 hbk hmp
      have HBW3 : Hid (Below w.heap.size w w3) := Lib.hid ((HB1.out.trans (HB2.out.mono HB1.out.size)).trans (HB3.out.mono (by omega)))
      have HML : Hid (0 < w.heap.size) := Lib.hid (World.block_lt_of_cell? w _ HM.out)
      have hmm := @run_makeMap Tryd.prog
      go_upto_region 7 with fail
      clear hmm
      rw [HW3.out]
      go_wp2_with fail
      refine (next_any w3 (fun k => w2.heap.size ≤ k ∧ k ≠ b) b {} ls A c (fun k => w1.heap.size ≤ k ∧ k < w2.heap.size) HR3.out HV3.out (fun k h => by omega)).mono ?_
      rintro e w4 ⟨rfl, A4, c4, hr4, hv4, hk4⟩
      have HR4 := Lib.hid hr4; have HV4 := Lib.hid hv4; have HK4 := Lib.hid hk4
      clear hr4 hv4 hk4
      go_wp2_with fail
      go_loopw [6, 7] (fun l o wr => ∃ (k : Nat) (A' : Option Addr) (c' : Nat), k ≤ ls.length ∧ l = .string (ofL ((ls.drop k).headD [])) ∧ o = .bool (!(ls.drop k).isEmpty) ∧ RdAt wr (fun k => w2.heap.size ≤ k ∧ k ≠ b) b (linesQ (ls.take k)) (.slice A' ((ls.drop k).drop 1).length c') ∧ View Rp.str wr (fun k => w1.heap.size ≤ k ∧ k < w2.heap.size) ((ls.drop k).drop 1) (.slice A' ((ls.drop k).drop 1).length c') ∧ Keep (fun k => w2.heap.size ≤ k) w3 wr)
        (fun _ o wr => (match wr.cell? ⟨b, 0, none⟩ with | some (.slice _ n _) => n | _ => 0) + (match o with | .bool true => 1 | _ => 0))
      case atStart => exact ⟨0, A4, c4, Nat.zero_le _, by simp [List.headD_eq_head?_getD], by simp, HR4.out, HV4.out, HK4.out.mono fun _ _ e => by omega⟩
      case round =>
        obtain ⟨k, A', c', hk, rfl, rfl, hr, hvv, hkp⟩ := hrel
        have HR := Lib.hid hr; have HVV := Lib.hid hvv; have HKP := Lib.hid hkp
        have hwr := hkp.size
        clear hr hvv hkp
        by_cases hlt : k < ls.length
        · have hd : ls.drop k = ls[k] :: ls.drop (k + 1) := List.drop_eq_getElem_cons hlt
          obtain ⟨x, hx⟩ : ∃ x, ls[k] = x := ⟨_, rfl⟩
          rw [hx] at hd
          have hxl : x.length ≤ s.size := HX2.out x (hx ▸ List.getElem_mem hlt)
          have HT : Hid (linesQ (ls.take (k + 1)) = lineQ (linesQ (ls.take k)) x) := Lib.hid (by rw [List.take_add_one, List.getElem?_eq_getElem hlt, hx, Option.toList_some, linesQ_snoc])
          obtain ⟨n1, n2⟩ := linesQ_len ls k (by omega)
          simp only [hd, List.headD_cons, List.isEmpty_cons, Bool.not_false, List.drop_succ_cons, List.drop_zero] at HR HVV ⊢
          obtain ⟨X, hX⟩ : ∃ X, ofL x = X := ⟨_, rfl⟩
          have hXs : X.size ≤ 1000000 := by rw [← hX, ofL_size]; omega
          have HXX : Hid (toL X = x) := Lib.hid (by rw [← hX, toL_ofL])
          rw [hX]
          have HMR : Hid (MaxLen m wr) := Lib.hid ((HKP.out.cell (HM.out.below HBW3.out) (by have := HML.out; have := HNUM.out; show ¬ w2.heap.size ≤ 0; omega)))
          obtain ⟨FC, mbC, hri⟩ := HR.out
          have HC0 : Hid (wr.cell? ⟨b, 0, none⟩ = some (.slice A' (ls.drop (k + 1)).length c')) := Lib.hid (blk_cell hri.blk 0)
          clear hd hX hx hri
          go_wp2_with fail
          refine (line_any wr (fun k => w2.heap.size ≤ k ∧ k ≠ b) b _ _ HR.out (by omega) (by omega) X hXs m HMR.out (fun h => by have := HML.out; have := HNUM.out; omega) (by have := HML.out; have := HNUM.out; omega)).mono ?_
          rintro e w5 ⟨rfl, hr5, hk5⟩
          rw [HXX.out, ← HT.out] at hr5
          have hr5' := hr5.mono (S' := fun k => w2.heap.size ≤ k ∧ k ≠ b) (fun j hj h => by
            rcases h with h | h
            · exact h
            · exact ⟨by omega, by omega⟩) (fun h => h.2 rfl)
          have HR5 := Lib.hid hr5'
          have HV5 := Lib.hid (HVV.out.keep hk5 fun j h e => by
            rcases e with e | e
            · omega
            · omega)
          have HK5 := Lib.hid (HKP.out.trans hk5 fun i _ h => by
            rcases h with h | h
            · exact h.1
            · omega)
          clear hr5 hr5' hk5
          go_wp2_with fail
          refine (next_any w5 (fun k => w2.heap.size ≤ k ∧ k ≠ b) b _ (ls.drop (k + 1)) A' c' (fun k => w1.heap.size ≤ k ∧ k < w2.heap.size) HR5.out HV5.out (fun k h => by omega)).mono ?_
          rintro e w6 ⟨rfl, A6, c6, hr6, hv6, hk6⟩
          have HR6 := Lib.hid hr6; have HV6 := Lib.hid hv6
          have HK6 := Lib.hid (HK5.out.trans hk6 fun i _ h => by omega)
          clear hr6 hv6 hk6
          go_wp2_with fail
          go_roundw
          case rel => exact ⟨k + 1, A6, c6, by omega, by simp [List.headD_eq_head?_getD, List.head?_drop], by simp, HR6.out, HV6.out, HK6.out⟩
          case measure =>
            obtain ⟨FD, mbD, hri⟩ := HR6.out
            have h6 : w6.cell? ⟨b, 0, none⟩ = some (.slice A6 ((ls.drop (k + 1)).drop 1).length c6) := blk_cell hri.blk 0
            rw [HC0.out, h6]
            cases hdd : ls.drop (k + 1) with
            | nil => simp
            | cons y l => simp
        · obtain rfl : k = ls.length := by omega
          have hd : ls.drop ls.length = [] := List.drop_length
          rw [List.take_length] at HR
          simp only [hd, List.headD_nil, List.isEmpty_nil, Bool.not_true] at HR ⊢
          obtain ⟨F, mb, hri⟩ := HR.out
          obtain ⟨FA, fn, rfl, hfn⟩ := hri.hds.slice
          have c1 := blk_cell hri.blk 1
          have c2 := blk_cell hri.blk 2
          have c3 := blk_cell hri.blk 3
          have c4 := blk_cell hri.blk 4
          have c5 := blk_cell hri.blk 5
          have c6 := blk_cell hri.blk 6
          have c7 := blk_cell hri.blk 7
          have c8 := blk_cell hri.blk 8
          have c9 := blk_cell hri.blk 9
          simp only [rcells, List.getElem?_toArray, List.getElem?_cons_zero, List.getElem?_cons_succ] at c1 c2 c3 c4 c5 c6 c7 c8 c9
          have hltb := hri.lt
          have HF := Lib.hid hri.hds.view
          have gr : wr.heap[w.heap.size]? = some (.cells #[.string ⟨#[]⟩, .string ⟨#[]⟩, .string ⟨#[]⟩, .string ⟨#[]⟩, .bool false, .bool false, .int .i64 0, .slice none 0 0] 25 (0, 0)) :=
            (HKP.out.blk ((HB3.out.block _ (by omega)).trans ((HB2.out.block _ hwlt).trans HG1.out)) (by show ¬ w2.heap.size ≤ _; omega))
          have fr0 := blk_free gr 0
          have fr1 := blk_free gr 1
          have fr2 := blk_free gr 2
          have fr3 := blk_free gr 3
          have fr4 := blk_free gr 4
          have fr5 := blk_free gr 5
          have fr6 := blk_free gr 6
          have fr7 := blk_free gr 7
          obtain ⟨cr0, cr1, cr2, cr3, cr4, cr5, cr6, cr7⟩ := cell8 gr
          have hltr := blk_lt gr
          have GR := Lib.hid gr
          have HBWR : Hid (Below w.heap.size w wr) := Lib.hid (HBW3.out.trans (HKP.out.below (by omega) fun i hi h => by omega))
          have HNE : Hid (∀ j, (Value.slice FA (linesQ ls).q.hds.length fn).ownBlock = some j → ¬ j = w.heap.size) := Lib.hid fun j hj e => by
            have h1 := (hri.inF j hj).1; have := HNUM.out; omega
          clear gr hri hfn
          obtain ⟨st, hst⟩ : ∃ x, linesQ ls = x := ⟨_, rfl⟩
          rw [hst] at hR c1 c2 c3 c4 c5 c6 c7 c8 c9 HF HNE
          clear hst HR
          cases hbad : st.bad with
          | true =>
            rw [hbad] at c1 hR
            rw [if_pos rfl] at hR
            go_wp2_with fail
            have Z := cell8 (blk8 GR.out (.string ⟨#[]⟩) (.string ⟨#[]⟩) (.string ⟨#[]⟩) (.string ⟨#[]⟩) (.bool false) (.bool false) (.int .i64 0) (.slice none 0 0))
            have kb := keep8 wr w.heap.size (.string ⟨#[]⟩) (.string ⟨#[]⟩) (.string ⟨#[]⟩) (.string ⟨#[]⟩) (.bool false) (.bool false) (.int .i64 0) (.slice none 0 0)
            unfold put8 at Z kb
            obtain ⟨z0, z1, z2, z3, z4, z5, z6, z7⟩ := Z
            exact bodyPost_ret (v := .tuple #[.agg #[.string ⟨#[]⟩, .string ⟨#[]⟩, .string ⟨#[]⟩, .string ⟨#[]⟩, .bool false, .bool false, .int .i64 0, .slice none 0 0], .int .i64 8]) (by simp [results, Tryd.results10, go_sem, z0, z1, z2, z3, z4, z5, z6, z7]) rfl (hR _ _ ⟨.slice none 0 0, rfl, View.nil _ _ _, HBWR.out.trans (kb.below (by exact HBWR.out.size) fun i hi e => by omega)⟩)
          | false =>
            rw [hbad] at c1 hR
            rw [if_neg (by decide)] at hR
            go_wp2_with fail
            have Z := cell8 (blk8 GR.out (.string (ofL st.q.doc)) (.string (ofL st.q.url)) (.string (ofL st.q.dest)) (.string (ofL st.q.meth)) (.bool st.q.cors) (.bool st.q.creds) (.int .i64 st.q.redir) (.slice FA st.q.hds.length fn))
            have kb := keep8 wr w.heap.size (.string (ofL st.q.doc)) (.string (ofL st.q.url)) (.string (ofL st.q.dest)) (.string (ofL st.q.meth)) (.bool st.q.cors) (.bool st.q.creds) (.int .i64 st.q.redir) (.slice FA st.q.hds.length fn)
            unfold put8 at Z kb
            obtain ⟨z0, z1, z2, z3, z4, z5, z6, z7⟩ := Z
            exact bodyPost_ret (v := .tuple #[.agg #[.string (ofL st.q.doc), .string (ofL st.q.url), .string (ofL st.q.dest), .string (ofL st.q.meth), .bool st.q.cors, .bool st.q.creds, .int .i64 st.q.redir, .slice FA st.q.hds.length fn], .int .i64 0]) (by simp [results, Tryd.results10, go_sem, z0, z1, z2, z3, z4, z5, z6, z7]) rfl (hR _ _ ⟨.slice FA st.q.hds.length fn, rfl, (HF.out.keep kb HNE.out).mono fun _ _ => trivial, HBWR.out.trans (kb.below (by exact HBWR.out.size) fun i hi e => by omega)⟩)
end Go.Proofs.YtilpaopkhghicaaDoor.Asc
