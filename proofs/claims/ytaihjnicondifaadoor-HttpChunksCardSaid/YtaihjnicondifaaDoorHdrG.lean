/-
  Contracts: List of both.
  Lengths within the rows' own reach.
-/
import Derived.Test.YtaihjnicondifaaDoorHdrF
namespace Go.Proofs.YtaihjnicondifaaDoor.Asc
open Go Go.RowKit Go.Proofs.YtaihjnicondifaaDoor.Pb

def someOf (l : List (List UInt8)) : List (List UInt8) := (l.map trim).filter fun x => !x.isEmpty
def listOf (vs : List (List UInt8)) : List (List UInt8) := vs.flatMap fun v => someOf (split v 44)
theorem someOf_snoc (l : List (List UInt8)) (j : Nat) (x : List UInt8) (h : l[j]? = some x) : someOf (l.take (j + 1)) = someOf (l.take j) ++ (if (trim x).isEmpty then [] else [trim x]) := by
  unfold someOf
  rw [List.take_add_one, h, List.map_append, List.filter_append]
  cases hs : (trim x).isEmpty <;> simp [hs]
theorem someOf_len (l : List (List UInt8)) (j : Nat) : (someOf (l.take j)).length ≤ j := by
  unfold someOf
  have := List.length_filter_le (fun x : List UInt8 => !x.isEmpty) ((l.take j).map trim)
  rw [List.length_map, List.length_take] at this; omega
theorem listOf_snoc (l : List (List UInt8)) (k : Nat) (x : List UInt8) (h : l[k]? = some x) : listOf (l.take (k + 1)) = listOf (l.take k) ++ someOf (split x 44) := by
  unfold listOf
  rw [List.take_add_one, h, List.flatMap_append]
  simp
theorem split_len (s : List UInt8) (sep : UInt8) : (split s sep).length ≤ s.length + 1 := by
  rw [split_eq]
  induction s with
  | nil => simp [splitR]
  | cons c l ih =>
    unfold splitR
    split
    · simp; omega
    · have hne := splitR_ne sep l
      cases hs : splitR sep l with
      | nil => exact (hne hs).elim
      | cons a b => rw [hs] at ih; simp at ih ⊢; omega
theorem split_ne (s : List UInt8) (sep : UInt8) : split s sep ≠ [] := by rw [split_eq]; exact splitR_ne sep s
theorem split_small (s : List UInt8) (sep : UInt8) : ∀ x ∈ split s sep, x.length ≤ s.length := by
  rw [split_eq]
  induction s with
  | nil => intro x hx; simp [splitR] at hx; rw [hx]; simp
  | cons c l ih =>
    intro x hx
    unfold splitR at hx
    split at hx
    · rcases List.mem_cons.1 hx with rfl | hx
      · simp
      · have := ih x hx; simp; omega
    · cases hs : splitR sep l with
      | nil => exact (splitR_ne sep l hs).elim
      | cons a b =>
        rw [hs] at hx ih
        rcases List.mem_cons.1 hx with rfl | hx
        · have := ih a (by simp); simp; omega
        · have := ih x (by simp [hx]); simp; omega
theorem listOf_len (l : List (List UInt8)) (k : Nat) (hl : ∀ x ∈ l, x.length ≤ 1000000) : (listOf (l.take k)).length ≤ k * 1000001 := by
  induction k with
  | zero => simp [listOf]
  | succ k ih =>
    by_cases h : k < l.length
    · have e : l[k]? = some l[k] := List.getElem?_eq_getElem h
      rw [listOf_snoc l k _ e, List.length_append]
      have h1 := someOf_len (split l[k] 44) (split l[k] 44).length
      rw [List.take_length] at h1
      have h2 := split_len l[k] 44
      have h3 := hl l[k] (List.getElem_mem h)
      omega
    · rw [List.take_of_length_le (by omega)]
      rw [List.take_of_length_le (by omega)] at ih
      exact Nat.le_trans ih (Nat.mul_le_mul_right _ (Nat.le_succ k))
theorem isEmpty_beq (l : List UInt8) : (l == ([] : List UInt8)) = l.isEmpty := by cases l <;> rfl

set_option maxHeartbeats 4000000 in
theorem list_any (vs : List (List UInt8)) (v : Value) (F : Nat → Prop) (w : World) (hv : View Rp.str w F vs v) (hl : vs.length ≤ 100000) (hx : ∀ x ∈ vs, x.length ≤ 1000000) (m : Int) (hm : w.cell? ⟨0, 0, none⟩ = some (.int .i64 m)) :
    Calls Tryd.prog 41 #[v] w fun e w' => ∃ r, e = .returned r ∧ Own Rp.str 9 w' (w.heap.size ≤ ·) (listOf vs) r ∧ Below w.heap.size w w' := by
  refine calls_gen fun R hR => ?_
  obtain ⟨A, c, rfl, hcl, hget⟩ := hv.open1
  have HG := Lib.hid hget; have HXL := Lib.hid hx
  clear hget hv hx
  have hml := World.block_lt_of_cell? w _ hm
  have HM := Lib.hid hm; have HML := Lib.hid hml
  clear hm hml
  go_enter Tryd.func41, Tryd.ntmps41
  go_wp2_with fail
  go_loopw [2, 9] (fun ov i wr => ∃ k : Nat, k ≤ vs.length ∧ i = .int .i64 k ∧ Own Rp.str 9 wr (w.heap.size ≤ ·) (listOf (vs.take k)) ov ∧ Below w.heap.size w wr) (fun _ i _ => vs.length - (intOf i).toNat)
  case atStart => exact ⟨0, Nat.zero_le _, rfl, Own.nil _ _ _ _, Below.refl _ _⟩
  case round =>
    obtain ⟨k, hk, rfl, ho, hb⟩ := hrel
    have hvl : (listOf (vs.take k)).length ≤ 100000100000 := by
      have h1 := listOf_len vs k HXL.out
      have h2 : k * 1000001 ≤ 100000 * 1000001 := Nat.mul_le_mul_right _ (by omega)
      omega
    obtain ⟨OA, oc, rfl, hoc⟩ := ho.slice
    have hbs := hb.size
    have hob : ∀ a, (Value.slice OA (listOf (vs.take k)).length oc).ownBlock = some a → w.heap.size ≤ a ∧ a < wr.heap.size := fun a ha => by
      obtain ⟨_, _, h2, _⟩ := ho.bnd
      exact h2 a ha
    obtain ⟨z, hz⟩ : ∃ z, listOf (vs.take k) = z := ⟨_, rfl⟩
    rw [hz] at ho hoc hvl hob ⊢
    have HZ := Lib.hid hz; have HO := Lib.hid ho; have HB := Lib.hid hb; have HOB := Lib.hid hob
    clear hz ho hb hob
    by_cases hlt : k < vs.length
    · obtain ⟨g, off, rfl, hg, hx⟩ := HG.out k hlt
      obtain ⟨x, he⟩ : ∃ x, vs[k]? = some x := ⟨_, List.getElem?_eq_getElem hlt⟩
      have d0 := (HB.out.cell (p := ⟨g, off + k, none⟩) hg).trans (hx k x he)
      have hxl := HXL.out x (List.mem_of_getElem? he)
      have HSN := Lib.hid (listOf_snoc vs k x he)
      have hgr : g < wr.heap.size := by omega
      clear hx he
      go_wp2_with fail
      refine (split_any (ofL x) 44 m wr (by rw [ofL_size]; exact hxl) ((HB.out.cell (p := ⟨0, 0, none⟩) HML.out).trans HM.out)).mono ?_
      rintro e w2 ⟨pv, rfl, hp, hb2⟩
      rw [toL_ofL] at hp
      have hpl := split_len x 44
      have hps := split_small x 44
      have hpn := split_ne x 44
      obtain ⟨P, hP⟩ : ∃ P, split x 44 = P := ⟨_, rfl⟩
      rw [hP] at hp hpl hps hpn HSN
      obtain ⟨pg, pc, rfl, hpg, hpc, hrow⟩ := hp.row hpn
      have hpgl := hrow.len
      have hpgF : wr.heap.size ≤ pg := hpg
      have HPC : Hid (∀ j y, P[j]? = some y → w2.cell? ⟨pg, j, none⟩ = some (.string (ofL y))) := Lib.hid fun j y hj => hrow.cell (i := j) (by rw [List.getElem?_map, hj]; rfl)
      have hs2 := hb2.size
      have HB2 := Lib.hid (HB.out.trans (hb2.mono hbs)); have HO2 := Lib.hid (HO.out.below hb2)
      have HPS := Lib.hid hps
      have hPnum : P.length ≤ 1000001 := by omega
      clear hP hp hrow hps hb2 hpn hpg d0 hpl
      go_wp2_with fail
      go_loopw [2, 6, 16] (fun ov _ i wr => ∃ j : Nat, j ≤ P.length ∧ i = .int .i64 j ∧ Own Rp.str 9 wr (w.heap.size ≤ ·) (z ++ someOf (P.take j)) ov ∧ Below w.heap.size w wr ∧ (∀ a, ov.ownBlock = some a → a ≠ pg) ∧ pg < wr.heap.size ∧ ∀ j y, P[j]? = some y → wr.cell? ⟨pg, j, none⟩ = some (.string (ofL y))) (fun _ _ i _ => P.length - (intOf i).toNat)
      case atStart => exact ⟨0, Nat.zero_le _, rfl, by simpa [someOf] using HO2.out, HB2.out, fun a ha => by have := (HOB.out a ha).2; omega, hpgl, HPC.out⟩
      case round =>
        clear HB HB2 HO HO2 HOB HPC
        obtain ⟨j, hj, rfl, ho, hb, hob, hpgr, hpc2⟩ := hrel
        have hsl := someOf_len P j
        obtain ⟨OB, od, rfl, hod⟩ := ho.slice
        have hbs2 := hb.size
        obtain ⟨z2, hz2⟩ : ∃ z2, z ++ someOf (P.take j) = z2 := ⟨_, rfl⟩
        have hz2l : z2.length ≤ 100001100001 := by rw [← hz2, List.length_append]; omega
        rw [hz2] at ho hod hob ⊢
        have HZ2 := Lib.hid hz2; have HO3 := Lib.hid ho; have HB3 := Lib.hid hb; have HOB3 := Lib.hid hob; have HPC3 := Lib.hid hpc2
        clear hz2 ho hb hob hpc2
        by_cases hjl : j < P.length
        · obtain ⟨y, hy⟩ : ∃ y, P[j]? = some y := ⟨_, List.getElem?_eq_getElem hjl⟩
          have d0 := HPC3.out j y hy
          have hyl := HPS.out y (List.mem_of_getElem? hy)
          have HSN2 := Lib.hid (someOf_snoc P j y hy)
          clear hy
          go_wp2_with fail
          refine (trim_any (ofL y) wr (by rw [ofL_size]; omega)).mono ?_
          rintro e w5 ⟨rfl, hb5⟩
          rw [toL_ofL]
          have hs5 := hb5.size
          have HB5 := Lib.hid (HB3.out.trans (hb5.mono hbs2)); have HO5 := Lib.hid (HO3.out.below hb5)
          have HPC5 : Hid (∀ j y, P[j]? = some y → w5.cell? ⟨pg, j, none⟩ = some (.string (ofL y))) := Lib.hid fun j y h => (hb5.cell (p := ⟨pg, j, none⟩) hpgr).trans (HPC3.out j y h)
          obtain ⟨T, hT⟩ : ∃ T, trim y = T := ⟨_, rfl⟩
          rw [hT] at HSN2 ⊢
          have hTe : ((ofL T).toList == ([] : List UInt8)) = T.isEmpty := by rw [toList_ofL]; exact isEmpty_beq T
          obtain ⟨X, hX⟩ : ∃ X, ofL T = X := ⟨_, rfl⟩
          rw [hX] at hTe ⊢
          have HX := Lib.hid hX
          clear hb5 hT d0 hX
          cases ht : T.isEmpty with
          | true =>
            rw [ht] at hTe HSN2
            have HV : Hid (z ++ someOf (P.take (j + 1)) = z2) := Lib.hid (by rw [HSN2.out, ← HZ2.out]; simp)
            clear ht HSN2
            have hTe2 : (X.toList != ([] : List UInt8)) = false := by rw [bne, hTe]; rfl
            go_wp2_with fail
            go_roundw
            case rel => exact ⟨j + 1, by omega, by go_num, by rw [HV.out]; exact HO5.out, HB5.out, HOB3.out, by omega, HPC5.out⟩
            case measure => simp [intOf]; omega
          | false =>
            rw [ht] at hTe HSN2
            have HV : Hid (z ++ someOf (P.take (j + 1)) = z2 ++ [T]) := Lib.hid (by rw [HSN2.out, ← HZ2.out]; simp)
            clear ht HSN2
            have hTe2 : (X.toList != ([] : List UInt8)) = true := by rw [bne, hTe]; rfl
            go_wp2_with (with_reducible (first | refine stop_append ?_))
            refine ⟨wp_append1 (r := Rp.str) (G := fun _ => False) (y := T) Tryd.underlying46 infoS rfl (show 0 < 1 by decide) HO5.out rfl rfl (by rw [← HX.out]; rfl) (fun k h => h.elim) (by omega) (by decide) ?_⟩
            intro v6 w6 ho6 hk6 _ hob6
            obtain ⟨OC, oe, rfl, hoe⟩ := ho6.slice
            have HO6 : Hid (Own Rp.str 9 w6 (w.heap.size ≤ ·) (z2 ++ [T]) (.slice OC (z2 ++ [T]).length oe)) := Lib.hid (ho6.mono fun a ha => by
              rcases ha with h | h | h
              · exact h
              · exact h.elim
              · have h' : w5.heap.size ≤ a := h
                show w.heap.size ≤ a; omega)
            have hoba : ∀ a, (Value.slice OB z2.length od).ownBlock = some a → w.heap.size ≤ a := fun a ha => by
              obtain ⟨_, _, h2, _⟩ := HO5.out
              exact h2 a ha
            have HB6 := Lib.hid (HB5.out.trans (hk6.below (B := w.heap.size) (by omega) fun i hi e => by have := hoba i e.symm; omega))
            have HOB6 : Hid (∀ a, (Value.slice OC (z2 ++ [T]).length oe).ownBlock = some a → a ≠ pg) := Lib.hid fun a ha => by
              rcases hob6 with h | ⟨q, h, hq⟩
              · exact HOB3.out a (h.symm.trans ha)
              · have e' := Option.some.inj (h.symm.trans ha); omega
            have HPC6 : Hid (∀ j y, P[j]? = some y → w6.cell? ⟨pg, j, none⟩ = some (.string (ofL y))) := Lib.hid fun j y h => hk6.cell (HPC5.out j y h) (fun e => HOB3.out pg e.symm rfl)
            have hs6 := hk6.size
            obtain ⟨z6, hz6⟩ : ∃ z6, z2 ++ [T] = z6 := ⟨_, rfl⟩
            rw [hz6] at HO6 HOB6 HV hoe ⊢
            clear ho6 hk6 hob6 hz6 hoba
            go_wp2_with fail
            go_roundw
            case rel => exact ⟨j + 1, by omega, by go_num, by rw [HV.out]; exact HO6.out, HB6.out, HOB6.out, by omega, HPC6.out⟩
            case measure => simp [intOf]; omega
        · obtain rfl : j = P.length := by omega
          rw [List.take_length] at HZ2
          have HV : Hid (listOf (vs.take (k + 1)) = z2) := Lib.hid (by rw [HSN.out, HZ.out, HZ2.out])
          go_wp2_with fail
          go_roundw
          case rel => exact ⟨k + 1, by omega, by go_num, by rw [HV.out]; exact HO3.out, HB3.out⟩
          case measure => simp [intOf]; omega
    · obtain rfl : k = vs.length := by omega
      rw [List.take_length] at HZ
      go_wp2_with fail
      go_ret
      exact hR _ _ ⟨_, rfl, by rw [HZ.out]; exact HO.out, HB.out⟩

end Go.Proofs.YtaihjnicondifaaDoor.Asc
