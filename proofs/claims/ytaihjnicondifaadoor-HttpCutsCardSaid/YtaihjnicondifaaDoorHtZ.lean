/-
  The law parapetlaw26.HttpCuts answers true.
  The library's MaxLen is a number.
-/
import Derived.Test.YtaihjnicondifaaDoorHtY
namespace Go.Proofs.YtaihjnicondifaaDoor.Asc
open Go Go.RowKit Go.Proofs.YtaihjnicondifaaDoor.Pb

def ItF (r : PS × Option It) : Prop := ∀ x, r.2 = some x → x.flds = r.1.flds ∨ x.flds = []
theorem itf_none (q : PS) : ItF (q, none) := fun x h => by cases h
theorem itf_bad (q : PS) (n : Int) : ItF (q, some (badI n)) := fun x h => by cases h; exact .inr rfl
theorem itf_done (q : PS) : ItF (q, some (doneN q)) := fun x h => by cases h; exact .inl rfl
theorem headedN_flds (p : PS) : ItF (headedN p) := by
  rw [headedF_eq]
  unfold headedF
  repeat' split
  all_goals first | exact itf_none _ | exact itf_bad _ _ | exact itf_done _
theorem sizeN_flds (p : PS) (l : List UInt8) : ItF (sizeN p l) := by
  unfold sizeN
  repeat' split
  all_goals first | exact itf_none _ | exact itf_bad _ _
theorem endedN_flds (p : PS) (l : List UInt8) : ItF (endedN p l) := by
  unfold endedN
  repeat' split
  all_goals first | exact itf_none _ | exact itf_bad _ _ | exact itf_done _ | exact sizeN_flds _ _ | exact headedN_flds _
theorem takeN_flds (p : PS) (c : UInt8) : ItF (takeN p c) := by
  unfold takeN
  dsimp only
  repeat' split
  all_goals first | exact itf_none _ | exact itf_bad _ _ | exact itf_done _ | exact endedN_flds _ _
theorem stepN_flds {n : Nat} {p : PS} (h : Live n p) (c : UInt8) : ∀ x ∈ (stepN p c).2, x.flds.length ≤ n + 1 := by
  intro x hx
  have hf := (takeN_fed h.fed c).1.fl
  have ht := takeN_flds p c
  unfold stepN at hx
  split at hx
  · simp at hx
  · split at hx
    · simp at hx
    · rename_i q y he
      rw [he] at hf ht
      have hxy : x = y := by
        split at hx
        · simpa using hx
        · simpa using hx
      subst hxy
      rcases ht x rfl with e | e
      · rw [e]; exact hf
      · rw [e]; simp
theorem feedN_flds (l : List UInt8) : ∀ {n : Nat} {p : PS}, Live n p → ∀ x ∈ (feedN p l).2, x.flds.length ≤ n + l.length := by
  induction l with
  | nil => intro n p _ x hx; simp [feedN_nil] at hx
  | cons c l ih =>
    intro n p h x hx
    rw [feedN_cons] at hx
    rcases List.mem_append.1 hx with hx | hx
    · have := stepN_flds h c x hx
      rw [List.length_cons]; omega
    · have := ih (stepN_live h c) x hx
      rw [List.length_cons]; omega

theorem infoJ : (Tryd.prog.info? 54).map (fun i => (i.zero, i.size, i.bytes)) = some (some (.agg #[.int .i64 0, .string ByteArray.empty, .string ByteArray.empty, .slice none 0 0, .string ByteArray.empty, .bool false]), 6, 88) := by kernel_rfl

set_option maxHeartbeats 2000000 in
set_option maxRecDepth 20000 in
/-- alike of two rows that are alike -/
theorem alike_any (its : List It) (hl : its.length ≤ 1000000) (hfl : ∀ x ∈ its, x.flds.length ≤ 1000000) (va vb : Value) (F1 F2 : Nat → Prop) (w : World) (ha : View itm w F1 its va) (hb : View itm w F2 its vb) :
    Calls Tryd.prog 14 #[va, vb] w fun e w' => e = .returned (.bool true) ∧ Below w.heap.size w w' := by
  refine calls_gen fun R hR => ?_
  have HA := Lib.hid ha; have HB := Lib.hid hb.bnd; have HFL := Lib.hid hfl
  obtain ⟨A, ca, rfl, _, _⟩ := view_items ha
  obtain ⟨B, cb, rfl, _, _⟩ := view_items hb
  clear ha hb hfl
  go_enter Tryd.func14, Tryd.ntmps14
  go_wp2_with fail
  go_loopw [5, 6] (fun v i wr => ∃ k : Nat, k ≤ its.length ∧ i = .int .i64 k ∧ Own itm 54 wr (fun j => (F2 j ∧ j < w.heap.size) ∨ w.heap.size ≤ j) (its.take k) v ∧ (∀ j, v.ownBlock = some j → w.heap.size ≤ j) ∧ Below w.heap.size w wr) (fun _ i _ => its.length - (intOf i).toNat)
  case atStart => exact ⟨0, Nat.zero_le _, rfl, Own.nil _ _ _ _, fun j h => by simp [Value.ownBlock] at h, Below.refl _ _⟩
  case round =>
    obtain ⟨k, hk, rfl, ho, hv, hb⟩ := hrel
    have HBR := Lib.hid hb; have HO := Lib.hid ho; have HV := Lib.hid hv
    have hws := hb.size
    obtain ⟨OA, oc, rfl, hoc⟩ := ho.slice
    have hlk : (its.take k).length = k := by rw [List.length_take]; omega
    obtain ⟨ti, hti⟩ : ∃ l, its.take k = l := ⟨_, rfl⟩
    rw [hti] at HO HV hoc hlk ⊢
    have HTI := Lib.hid hti
    have htl : ti.length ≤ its.length := by omega
    clear hb ho hv hti
    by_cases hlt : k < its.length
    · obtain ⟨x, hx⟩ : ∃ x, its[k]? = some x := ⟨_, List.getElem?_eq_getElem hlt⟩
      obtain ⟨_, _, e2, _, hg2⟩ := view_items (HB.out.below HBR.out)
      cases e2
      obtain ⟨b2, o2, e2, _, hb2, hc2⟩ := hg2 k hlt
      subst e2
      obtain ⟨f2, i2⟩ := hc2 x hx
      have HI2 := Lib.hid i2
      obtain ⟨A2, n2, rfl⟩ := flds_slice i2.flds
      have z0 := i2.c0
      have z1 := i2.c1
      have z2 := i2.c2
      have z3 := i2.c3
      have z4 := i2.c4
      have z5 := i2.c5
      have HX := Lib.hid hx
      have hq0 : (0 : Int) ≤ (k : Int) := by omega
      have hq1 : (k : Int) < (its.length : Int) := by omega
      have HTK : Hid (its.take (k + 1) = ti ++ [x]) := Lib.hid (by rw [List.take_add_one, hx, HTI.out]; rfl)
      clear hg2 hc2 hx i2 hlk
      go_wp2_with fail
      refine (item_any wr _ _ _ _ _ _ _ _).mono ?_
      rintro e w2 ⟨rfl, hb2'⟩
      have HB2 := Lib.hid hb2'
      have hws2 := hb2'.size
      have HO2 := Lib.hid (HO.out.below hb2')
      have HF2 := Lib.hid ((HI2.out.below hb2 hb2').flds)
      clear hb2' z0 z1 z2 z3 z4 z5
      unfold agg6
      go_wp2_with (with_reducible (first | refine stop_append ?_))
      refine ⟨wp_append1 (r := itm) (F := fun j => (F2 j ∧ j < w.heap.size) ∨ w.heap.size ≤ j) (G := fun j => F2 j ∧ j < w.heap.size) (y := x) Tryd.underlying53 infoJ rfl (show 0 < 6 by decide) HO2.out rfl rfl (itm_rep HF2.out) (fun j h e => by
        have := HV.out j e.symm; omega) (by omega) (by decide) ?_⟩
      intro v3 w3 ho3 hk3 _ hb3
      obtain ⟨A3, c3, rfl, hc3⟩ := ho3.slice
      have HO3 := Lib.hid ho3
      have HV3 : Hid (∀ j, (Value.slice A3 (ti ++ [x]).length c3).ownBlock = some j → w.heap.size ≤ j) := Lib.hid fun j hj => by
        rcases hb3 with h | ⟨j', h, hj'⟩
        · exact HV.out j (h ▸ hj)
        · rw [h] at hj; cases hj; omega
      have HB3 : Hid (Below w.heap.size w w3) := Lib.hid ((HBR.out.trans (HB2.out.mono hws)).trans (hk3.below (by omega) fun i hi h => by
        have := HV.out i h.symm; omega))
      obtain ⟨zz, hzz⟩ : ∃ z, ti ++ [x] = z := ⟨_, rfl⟩
      rw [hzz] at HO3 HV3 HTK hc3 ⊢
      clear ho3 hk3 hb3 hzz
      go_wp2_with fail
      go_roundw
      case rel => exact ⟨k + 1, by omega, by go_num, by
        rw [HTK.out]
        refine HO3.out.mono fun j h => ?_
        rcases h with h | h | h
        · exact h
        · exact .inl h
        · exact .inr (by omega), HV3.out, HB3.out⟩
      case measure => simp [intOf]; omega
    · obtain rfl : k = its.length := by omega
      rw [List.take_length] at HTI
      obtain rfl := HTI.out
      go_wp2_with fail
      refine (sames_any its hl HFL.out _ _ F1 _ wr (HA.out.below HBR.out) HO.out.view).mono ?_
      rintro e w2 ⟨rfl, hb2⟩
      have HB2 := Lib.hid (HBR.out.trans (hb2.mono hws))
      clear hb2
      go_wp2_with fail
      go_ret
      exact hR _ _ ⟨rfl, HB2.out⟩

set_option maxHeartbeats 1000000 in
/-- a parser that is none takes nothing -/
theorem pnil_any (w : World) (bs : List UInt8) (hbs : bs.length ≤ 100000) (v : Value) (G : Nat → Prop) (hv : View Rp.u8 w G bs v) :
    Calls Tryd.prog 13 #[.pointer none, v] w fun e w' => e = .returned (.slice none 0 0) ∧ w' = w := by
  refine calls_gen fun R hR => ?_
  obtain ⟨A, c, rfl, hc, hget⟩ := hv.open1
  clear hv
  go_enter Tryd.func13, Tryd.ntmps13
  go_wp2_with fail
  go_loopw [4, 11] (fun v i wr => v = .slice none 0 0 ∧ i = .int .i64 0 ∧ wr = w) (fun _ _ _ => 0)
  case atStart => exact ⟨rfl, rfl, rfl⟩
  case round =>
    obtain ⟨rfl, rfl, hww⟩ := hrel
    rw [hww]
    clear hww
    by_cases h0 : 0 < bs.length
    · obtain ⟨x, hx⟩ : ∃ x, bs[0]? = some x := ⟨_, List.getElem?_eq_getElem h0⟩
      obtain ⟨g, off, rfl, hg, hgx⟩ := hget 0 h0
      have d0 : w.cell? ⟨g, off, none⟩ = some (.int .u8 x.toNat) := hgx 0 x hx
      clear hget hgx hx
      go_wp2_with fail
      refine (over_nil w).mono ?_
      rintro e w2 ⟨rfl, hw2⟩
      rw [hw2]
      clear hw2
      go_wp2_with fail
      go_ret
      exact hR _ _ ⟨rfl, rfl⟩
    · have h0' : bs.length = 0 := by omega
      go_wp2_with fail
      go_ret
      exact hR _ _ ⟨rfl, rfl⟩
end Go.Proofs.YtaihjnicondifaaDoor.Asc
