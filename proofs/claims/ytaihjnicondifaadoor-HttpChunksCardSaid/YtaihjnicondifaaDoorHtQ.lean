/-
  Contract of the law's feed: a text is fed in pieces of so many bytes.
  The text's length within the rows' own reach; the library's MaxLen is a number.
-/
import Derived.Test.YtaihjnicondifaaDoorHtO
namespace Go.Proofs.YtaihjnicondifaaDoor.Asc
open Go Go.RowKit Go.Proofs.YtaihjnicondifaaDoor.Pb

set_option maxHeartbeats 4000000 in
set_option maxRecDepth 20000 in
theorem feed_any (s : ByteArray) (size : Int) (h1 : 1 ≤ size) (h2 : size ≤ 9223372036854775807) (hs : s.size ≤ 100000) (w : World) (m : Int) (hm : w.cell? ⟨0, 0, none⟩ = some (.int .i64 m)) :
    Calls Tryd.prog 12 #[.string s, .int .i64 size] w fun e w' => ∃ v O, e = .returned (.tuple #[v, .bool (feedN {} (toL s)).1.over]) ∧ Own itm 41 w' O (feedN {} (toL s)).2 v ∧ (∀ k, O k → w.heap.size ≤ k) ∧ Below w.heap.size w w' := by
  refine calls_gen fun R hR => ?_
  have HM := Lib.hid hm; have HML := Lib.hid (World.block_lt_of_cell? w _ hm)
  clear hm
  go_enter Tryd.func12, Tryd.ntmps12
  go_wp2_with fail
  refine (new_any w).mono ?_
  rintro e w1 ⟨rfl, hp1, hb1⟩
  have HP1 := Lib.hid hp1; have HB1 := Lib.hid hb1
  have hws1 := hb1.size
  clear hp1 hb1
  go_wp2_with fail
  go_loopw [7, 8] (fun v i wr => ∃ k : Nat, k ≤ s.size ∧ i = .int .i64 k ∧ ∃ S1 O : Nat → Prop, PAt wr S1 w.heap.size (feedN {} ((toL s).take k)).1 ∧ Own itm 41 wr O (feedN {} ((toL s).take k)).2 v ∧ (∀ j, S1 j → ¬ O j) ∧ (∀ j, S1 j ∨ O j → w.heap.size ≤ j) ∧ ¬ O w.heap.size ∧ Below w.heap.size w wr) (fun _ i _ => s.size - (intOf i).toNat)
  case atStart => exact ⟨0, Nat.zero_le _, rfl, fun _ => False, fun _ => False, HP1.out, Own.nil _ _ _ _, fun _ _ h => h, fun k h => h.elim False.elim False.elim, id, HB1.out⟩
  case round =>
    obtain ⟨k, hk, rfl, S1, O, hp, ho, hd, hin, hob, hkp⟩ := hrel
    obtain ⟨⟨q, its⟩, hr⟩ : ∃ r, feedN {} ((toL s).take k) = r := ⟨_, rfl⟩
    rw [hr] at hp ho
    dsimp only at hp ho
    have hil : its.length ≤ k := by
      have := feedN_len ((toL s).take k) {}
      rw [hr, List.length_take] at this; dsimp only at this; omega
    have HRK := Lib.hid hr
    have HLV : Hid (Live k q) := Lib.hid (by
      have := feedN_live ((toL s).take k) (live_zero 0)
      rw [hr, List.length_take, Nat.min_eq_left (by rw [toL_len]; exact hk), Nat.zero_add] at this; exact this)
    obtain ⟨OA, oc, rfl, hoc⟩ := ho.slice
    have HP := Lib.hid hp; have HO := Lib.hid ho; have HD := Lib.hid hd; have HIN := Lib.hid hin; have HOB := Lib.hid hob; have HKP := Lib.hid hkp
    have hws := hkp.size
    clear hr hp ho hd hin hob hkp
    by_cases hlt : k < s.size
    · go_upto_if 21 with fail
      go_cut [9] (fun v wc => ∃ n : Nat, v = .int .i64 n ∧ 1 ≤ n ∧ k + n ≤ s.size ∧ wc = wr)
      case first =>
        by_cases hn : (s.size : Int) - k > size
        · go_wp2_with fail
          go_meet
          exact ⟨size.toNat, by congr 1; omega, by omega, by omega, rfl⟩
        · go_wp2_with fail
          go_meet
          exact ⟨s.size - k, by congr 1; omega, by omega, by omega, rfl⟩
      case rest =>
        obtain ⟨n, rfl, hn1, hn2, rfl⟩ := hcut
        have i1 : (k : Int) ≤ (k : Int) + (n : Int) := by omega
        have i2 : (k : Int) + (n : Int) ≤ (s.size : Int) := by omega
        have i3 : ((k : Int) + (n : Int)).toNat = k + n := by omega
        have i4 : (0 : Int) ≤ (k : Int) := by omega
        have i5 : (0 : Int) ≤ (k : Int) + (n : Int) := by omega
        go_wp2_with (with_reducible (first | refine stop_convert ?_ | refine stop_append ?_))
        refine ⟨wp_bytes Tryd.underlying9 Tryd.underlying26 Tryd.underlying5 rfl ?_⟩
        intro c w2 m2 hc hrow hm2 hb2 hsz2
        have hXT : Hid (toL (s.extract k (k + n)) = ((toL s).drop k).take n) := Lib.hid (by
          rw [extract_cut, toL_ofL]; unfold cut; rw [List.drop_take]; congr 1; omega)
        obtain ⟨X, hX⟩ : ∃ X, s.extract k (k + n) = X := ⟨_, rfl⟩
        rw [hX] at hc hrow hm2 hXT ⊢
        have hxn : X.size ≤ n := by
          rw [← toL_len, hXT.out, List.length_take]; omega
        have HSTEP : Hid ((toL s).take (k + n) = (toL s).take k ++ toL X) := Lib.hid (by rw [hXT.out, ← List.take_add])
        have hvx := hrow.view (h1 := fun _ => rfl) (c := c) (by rw [toL_len]; exact hc) (F := fun j => j = wc.heap.size) rfl
        rw [toL_len] at hvx
        have HVX := Lib.hid hvx
        have HB2 := Lib.hid hb2
        have hws2 := hb2.size
        have HBW2 : Hid (Below w.heap.size w w2) := Lib.hid (HKP.out.trans (hb2.mono hws))
        clear hX hXT hrow hvx hb2 hsz2
        go_wp2_with fail
        refine (pfeed_any w2 (fun j => S1 j ∧ j < wc.heap.size) w.heap.size q (HP.out.bnd.below HB2.out) k HLV.out (toL X) (by rw [toL_len]; omega) _ (fun j => j = wc.heap.size) HVX.out (fun j e => by
          subst e
          exact ⟨fun h => by have := h.2; omega, by have := HP.out.lt; omega⟩) (fun h => by
          have h1 := HIN.out _ (.inl h.1)
          have := HML.out; omega) m ((HBW2.out.cell (p := ⟨0, 0, none⟩) HML.out).trans HM.out)).mono ?_
        rintro e w3 ⟨v3, rfl, S3, O3, hp3, ho3, hd3, hin3, hob3, hk3⟩
        obtain ⟨⟨q3, its3⟩, hr3⟩ : ∃ r, feedN q (toL X) = r := ⟨_, rfl⟩
        rw [hr3] at hp3 ho3
        dsimp only at hp3 ho3
        have hil3 : its3.length ≤ n := by
          have := feedN_len (toL X) q
          rw [hr3, toL_len] at this; dsimp only at this; omega
        have HRR : Hid (feedN {} ((toL s).take (k + n)) = (q3, its ++ its3)) := Lib.hid (by
          rw [HSTEP.out, feedN_app, HRK.out]; dsimp only; rw [hr3])
        obtain ⟨A3, c3, rfl, hc3⟩ := ho3.slice
        have HP3 := Lib.hid hp3; have HO3 := Lib.hid ho3; have HD3 := Lib.hid hd3; have HIN3 := Lib.hid hin3; have HOB3 := Lib.hid hob3; have HK3 := Lib.hid hk3
        have hws3 := hk3.size
        have hown : Hid (∀ j, (Value.slice OA its.length oc).ownBlock = some j → O j ∧ j < wc.heap.size) := Lib.hid fun j hj => by
          obtain ⟨_, _, h2, _⟩ := HO.out.bnd
          exact h2 j hj
        have HOW := Lib.hid ((HO.out.bnd.below HB2.out).keep hk3 fun j hj h => by
          rcases h with h | h
          · exact HD.out j h.1 hj.1
          · exact HOB.out (h ▸ hj.1))
        clear hr3 hp3 ho3 hd3 hin3 hob3 hk3
        go_wp2_with (with_reducible (first | refine stop_append ?_))
        refine ⟨wp_append_view (r := itm) (F := fun j => O j ∧ j < wc.heap.size) (G := O3) Tryd.underlying23 infoI rfl (show 0 < 6 by decide) HOW.out rfl rfl HO3.out.view (fun j h e => by
          have h2 := hown.out j e.symm
          rcases HIN3.out j (.inr h) with h3 | h3
          · exact HD.out j h3.1 h2.1
          · omega) (by unfold maxLen; omega) (by omega) ?_⟩
        intro v4 w4 ho4 hk4 _ hb4
        obtain ⟨zz, hzz⟩ : ∃ z, its ++ its3 = z := ⟨_, rfl⟩
        rw [hzz] at ho4 HRR
        obtain ⟨A4, c4, rfl, hc4⟩ := ho4.slice
        have HO4 := Lib.hid ho4; have HK4 := Lib.hid hk4
        have hws4 := hk4.size
        have HB3 : Hid (Below w.heap.size w w3) := Lib.hid (HBW2.out.trans (HK3.out.below (by omega) fun i hi h => by
          rcases h with h | h
          · have := HIN.out i (.inl h.1); omega
          · omega))
        have HB4 : Hid (Below w.heap.size w w4) := Lib.hid (HB3.out.trans (hk4.below (by omega) fun i hi h => by
          have := HIN.out i (.inr (hown.out i h.symm).1); omega))
        clear ho4 hk4 hb4 hzz
        go_wp2_with fail
        go_roundw
        case rel =>
          refine ⟨k + n, by omega, by go_num, ?_⟩
          rw [HRR.out]
          refine ⟨fun j => S3 j ∧ j < w3.heap.size, _, HP3.out.bnd.keep HK4.out (fun j hj h e => ?_), HO4.out, fun j h1 h2 => ?_, fun j h => ?_, fun h => ?_, HB4.out⟩
          · have h2 := hown.out j e.symm
            rcases h with h | h
            · rcases HIN3.out j (.inl h.1) with h3 | h3
              · exact HD.out j h3.1 h2.1
              · omega
            · exact HOB.out (h ▸ h2.1)
          · rcases h2 with h | h | h
            · rcases HIN3.out j (.inl h1.1) with h3 | h3
              · exact HD.out j h3.1 h.1
              · omega
            · exact HD3.out j h1.1 h
            · omega
          · rcases h with h | h | h | h
            · rcases HIN3.out j (.inl h.1) with h3 | h3
              · exact HIN.out j (.inl h3.1)
              · omega
            · exact HIN.out j (.inr h.1)
            · rcases HIN3.out j (.inr h) with h3 | h3
              · exact HIN.out j (.inl h3.1)
              · omega
            · omega
          · rcases h with h | h | h
            · exact HOB.out h.1
            · exact HOB3.out h
            · have := HP.out.lt; omega
        case measure => simp [intOf]; omega
    · obtain rfl : k = s.size := by omega
      have e : (toL s).take s.size = toL s := take_all s
      rw [e] at HRK
      clear e
      rw [HRK.out] at hR
      go_wp2_with fail
      refine (over_any wr S1 _ q HP.out).mono ?_
      rintro e w2 ⟨rfl, hw2⟩
      rw [hw2]
      clear hw2
      go_wp2_with fail
      go_ret2
      exact hR _ _ ⟨_, O, rfl, HO.out, fun j h => HIN.out j (.inr h), HKP.out⟩
end Go.Proofs.YtaihjnicondifaaDoor.Asc
