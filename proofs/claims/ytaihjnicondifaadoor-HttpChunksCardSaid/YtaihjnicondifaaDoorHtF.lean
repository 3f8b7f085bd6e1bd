/-
  Contract: a request's line.
  Lengths within the rows' own reach; the library's MaxLen is a number.
-/
import Derived.Test.YtaihjnicondifaaDoorHtE
namespace Go.Proofs.YtaihjnicondifaaDoor.Asc
open Go Go.RowKit Go.Proofs.YtaihjnicondifaaDoor.Pb

def visB (c : UInt8) : Bool := decide (33 ≤ c.toNat) && decide (c.toNat ≤ 126)
theorem cut2_le (c : UInt8) (l : List UInt8) : (cutAt c l).2.length ≤ l.length := by
  have := (List.dropWhile_sublist (· != c) (l := l)).length_le
  unfold cutAt; simp only [List.length_drop]; omega

set_option maxHeartbeats 2000000 in
set_option maxRecDepth 20000 in
/-- a request's line -/
theorem first_any (w : World) (S : Nat → Prop) (b : Nat) (p : PS) (h : PAt w S b p) (s : ByteArray) (hs : s.size ≤ 1000000) (m : Int) (hm : w.cell? ⟨0, 0, none⟩ = some (.int .i64 m)) :
    Calls Tryd.prog 36 #[.pointer (some ⟨b, 0, none⟩), .string s] w fun e w' => e = .returned (.bool (firstOk (toL s))) ∧ PAt w' (fun k => S k ∨ w.heap.size ≤ k) b (if firstOk (toL s) then firstN p (toL s) else p) ∧ Keep (fun k => S k ∨ k = b) w w' := by
  refine calls_gen fun R hR => ?_
  have hml := World.block_lt_of_cell? w _ hm
  have HM := Lib.hid hm; have HML := Lib.hid hml
  have HLB : Hid (b < w.heap.size) := Lib.hid h.lt
  have HNS : Hid (¬ S b) := Lib.hid h.out
  have H := Lib.hid h.bnd
  have HPB : Hid (∀ wb, Below w.heap.size w wb → PAt wb (fun k => S k ∨ w.heap.size ≤ k) b p) := Lib.hid (fun wb hb =>
    (h.below hb).mono (fun k _ h => .inl h) (fun h => by
      rcases h with h | h
      · exact HNS.out h
      · have := HLB.out; omega))
  clear hm hml h
  have HNO : Hid (firstOk (toL s) = false → ∀ wb, Below w.heap.size w wb → Pb.Fin (R (.returned (.bool false)) wb)) := Lib.hid fun hf wb hb => by
    refine hR _ _ ⟨by rw [hf], ?_, Keep.old hb⟩
    rw [hf]; exact HPB.out wb hb
  go_enter Tryd.func36, Tryd.ntmps36
  go_wp2_with fail
  refine (cutb_any s 32 m w hs HM.out).mono ?_
  rintro e w1 ⟨rfl, n1, hn1⟩
  have HB1 : Hid (Below w.heap.size w w1) := Lib.hid (hn1 ▸ (Below.refl _ _).drewN n1)
  clear hn1
  obtain ⟨M, hM⟩ : ∃ M, ofL (cutAt 32 (toL s)).1 = M := ⟨_, rfl⟩
  have hms : M.size ≤ 1000000 := by
    rw [← hM, ofL_size]; have := cut_le 32 (toL s); rw [toL_len] at this; omega
  obtain ⟨T1, hT1⟩ : ∃ M, ofL (cutAt 32 (toL s)).2 = M := ⟨_, rfl⟩
  have hts : T1.size ≤ 1000000 := by
    rw [← hT1, ofL_size]; have := cut2_le 32 (toL s); rw [toL_len] at this; omega
  obtain ⟨q1, hq1⟩ : ∃ q, (toL s).contains 32 = q := ⟨_, rfl⟩
  rw [hM, hT1, hq1]
  have HM1 : Hid ((cutAt 32 (toL s)).1 = toL M) := Lib.hid (by rw [← hM, toL_ofL])
  have HT1 : Hid ((cutAt 32 (toL s)).2 = toL T1) := Lib.hid (by rw [← hT1, toL_ofL])
  clear hM hT1 hq1
  go_wp2_with fail
  refine (cutb_any T1 32 m w1 hts ((HB1.out.cell (p := ⟨0, 0, none⟩) HML.out).trans HM.out)).mono ?_
  rintro e w2 ⟨rfl, n2, hn2⟩
  have HB2 : Hid (Below w.heap.size w w2) := Lib.hid (HB1.out.trans ((hn2 ▸ (Below.refl _ _).drewN n2 : Below w1.heap.size w1 w2).mono HB1.out.size))
  clear hn2
  obtain ⟨T, hT⟩ : ∃ M, ofL (cutAt 32 (toL T1)).1 = M := ⟨_, rfl⟩
  have htS : T.size ≤ 1000000 := by
    rw [← hT, ofL_size]; have := cut_le 32 (toL T1); rw [toL_len] at this; omega
  obtain ⟨V, hV⟩ : ∃ M, ofL (cutAt 32 (toL T1)).2 = M := ⟨_, rfl⟩
  have hvs : V.size ≤ 1000000 := by
    rw [← hV, ofL_size]; have := cut2_le 32 (toL T1); rw [toL_len] at this; omega
  obtain ⟨q2, hq2⟩ : ∃ q, (toL T1).contains 32 = q := ⟨_, rfl⟩
  rw [hT, hV, hq2]
  have HT : Hid ((cutAt 32 (toL T1)).1 = toL T) := Lib.hid (by rw [← hT, toL_ofL])
  have HV : Hid ((cutAt 32 (toL T1)).2 = toL V) := Lib.hid (by rw [← hV, toL_ofL])
  clear hT hV hq2
  have HF : Hid (firstOk (toL s) = ((toL V).take 7 == httpB && token (toL M) && ((toL V).drop 7).length == 1 && ((toL V).drop 7).all isDig && (toL T).head? == some 47 && (toL T).all visB)) := Lib.hid (by
    unfold firstOk; simp only [HM1.out, HT1.out, HT.out, HV.out]; rfl)
  have HN : Hid (firstN p (toL s) = { p with meth := toL M, path := toL T, digit := ((toL V).drop 7).headD 0 }) := Lib.hid (by
    unfold firstN; simp only [HM1.out, HT1.out, HT.out, HV.out])
  clear HM1 HT1 HT HV
  go_wp2_with fail
  refine (cutp_any V w2).mono ?_
  rintro e w3 ⟨D, rfl, hD, rfl, hds⟩
  obtain ⟨ok, hok⟩ : ∃ ok, ((toL V).take 7 == httpB) = ok := ⟨_, rfl⟩
  rw [hok] at hD HF ⊢
  have hdS : D.size ≤ 1000000 := by omega
  clear hok hds
  cases ok with
  | false =>
    have hno := HNO.out (by rw [HF.out]; simp)
    have HX := Lib.hid hno
    clear hno hD
    go_wp2_with fail
    go_ret
    exact HX.out _ HB2.out
  | true =>
    rw [← hD rfl] at HF HN
    clear hD
    go_wp2_with fail
    refine (token_any M _ hms).mono ?_
    rintro e w4 ⟨rfl, rfl⟩
    cases ht : token (toL M) with
    | false =>
      rw [ht] at HF
      clear ht
      have HX := Lib.hid (HNO.out (by rw [HF.out]; simp))
      go_wp2_with fail
      go_ret
      exact HX.out _ HB2.out
    | true =>
      rw [ht] at HF
      clear ht
      by_cases h1 : D.size = 1
      · obtain ⟨d, hd⟩ : ∃ d, D[0]'(by omega) = d := ⟨_, rfl⟩
        have HD : Hid (toL D = [d]) := Lib.hid (by
          apply List.ext_getElem
          · rw [toL_len, h1]; rfl
          · intro i hi hi'
            have : i = 0 := by simp at hi'; omega
            subst this
            rw [toL_get D 0 (by omega), hd]; rfl)
        rw [HD.out] at HF HN
        have h1i : (D.size : Int) = 1 := by omega
        have h0D : 0 < D.size := by omega
        have HF2 : Hid (firstOk (toL s) = (isDig d && (toL T).head? == some 47 && (toL T).all visB)) := Lib.hid (by rw [HF.out]; simp)
        clear HF
        by_cases hlo : d.toNat < 48
        · have HX := Lib.hid (HNO.out (by
            have : isDig d = false := by unfold isDig; rw [decide_eq_false (by omega)]; rfl
            rw [HF2.out, this]; rfl))
          go_wp2_with fail
          go_ret
          exact HX.out _ HB2.out
        · by_cases hhi : 57 < d.toNat
          · have HX := Lib.hid (HNO.out (by
              have : isDig d = false := by unfold isDig; rw [decide_eq_false (show ¬ d.toNat ≤ 57 by omega), Bool.and_false]
              rw [HF2.out, this]; rfl))
            go_wp2_with fail
            go_ret
            exact HX.out _ HB2.out
          · have hdlo : decide ((d.toNat : Int) < 48) = false := decide_eq_false (by omega)
            have hdhi : decide (57 < (d.toNat : Int)) = false := decide_eq_false (by omega)
            have HF3 : Hid (firstOk (toL s) = ((toL T).head? == some 47 && (toL T).all visB)) := Lib.hid (by
              have : isDig d = true := by unfold isDig; rw [decide_eq_true (show 48 ≤ d.toNat by omega), decide_eq_true (show d.toNat ≤ 57 by omega)]; rfl
              rw [HF2.out, this, Bool.true_and])
            clear HF2
            by_cases hT0 : T.size = 0
            · have hnil : toL T = [] := by apply List.eq_nil_of_length_eq_zero; rw [toL_len]; exact hT0
              have hTe : (T.toList == []) = true := by rw [toList_toL, hnil]; rfl
              have HX := Lib.hid (HNO.out (by rw [HF3.out, hnil]; rfl))
              clear hnil
              go_wp2_with fail
              go_ret
              exact HX.out _ HB2.out
            · have hTe : (T.toList == []) = false := by
                rw [toList_toL, isEmpty_beq]
                cases e : (toL T).isEmpty with
                | false => rfl
                | true => rw [List.isEmpty_iff] at e; have := toL_len T; rw [e] at this; simp at this; omega
              have h0T : 0 < T.size := by omega
              obtain ⟨t, ht⟩ : ∃ t, T[0]'h0T = t := ⟨_, rfl⟩
              have HH : Hid ((toL T).head? = some t) := Lib.hid (by
                rw [List.head?_eq_getElem?, getD_toL T 0 h0T, ht])
              by_cases h47 : t.toNat = 47
              · have HF4 : Hid (firstOk (toL s) = (toL T).all visB) := Lib.hid (by
                  have : t = 47 := by rw [← UInt8.toNat_inj]; exact h47
                  rw [HF3.out, HH.out, this]; simp)
                clear HF3
                go_wp2_with fail
                go_loopw [64] (fun i wr => ∃ k : Nat, k ≤ T.size ∧ i = .int .i64 k ∧ (∀ x ∈ (toL T).take k, visB x = true) ∧ Below w.heap.size w wr) (fun i _ => T.size - (intOf i).toNat)
                case atStart => exact ⟨0, Nat.zero_le _, rfl, by simp, HB2.out⟩
                case round =>
                  obtain ⟨k, hk, rfl, hall, hbr⟩ := hrel
                  have HA := Lib.hid hall; have HBR := Lib.hid hbr
                  clear hall hbr
                  by_cases hlt : k < T.size
                  · obtain ⟨c, hc⟩ : ∃ c, T[k]'hlt = c := ⟨_, rfl⟩
                    have htk : Hid ((toL T).take (k + 1) = (toL T).take k ++ [c]) := Lib.hid (by rw [← hc]; exact take_snoc T k hlt)
                    have hmem : Hid (c ∈ toL T) := Lib.hid (by rw [← hc, ← toL_get T k hlt]; exact List.getElem_mem _)
                    by_cases hv : 33 ≤ c.toNat ∧ c.toNat ≤ 126
                    · obtain ⟨v1, v2⟩ := hv
                      go_wp2_with fail
                      go_roundw
                      case rel => exact ⟨k + 1, by omega, by go_num, fun y hy => by
                        rw [htk.out] at hy
                        rcases List.mem_append.1 hy with hy | hy
                        · exact HA.out y hy
                        · simp at hy; rw [hy]; unfold visB; rw [decide_eq_true v1, decide_eq_true v2]; rfl, HBR.out⟩
                      case measure => simp [intOf]; omega
                    · have HX := Lib.hid (HNO.out (by
                        rw [HF4.out, List.all_eq_false]
                        refine ⟨c, hmem.out, ?_⟩
                        unfold visB; simp; omega))
                      by_cases hv1 : c.toNat < 33
                      · go_wp2_with fail
                        go_ret
                        exact HX.out _ HBR.out
                      · have hv2 : 126 < c.toNat := by omega
                        go_wp2_with fail
                        go_ret
                        exact HX.out _ HBR.out
                  · obtain rfl : k = T.size := by omega
                    rw [take_all] at HA
                    have hyes : Hid (firstOk (toL s) = true) := Lib.hid (by rw [HF4.out]; exact List.all_eq_true.2 HA.out)
                    clear HF4 HA
                    obtain ⟨L, F, B, hp⟩ := H.out.below HBR.out
                    have c4 := blk_cell hp.blk 4
                    have c5 := blk_cell hp.blk 5
                    have c9 := blk_cell hp.blk 9
                    have f4 := blk_free hp.blk 4
                    have f5 := blk_free hp.blk 5
                    have f9 := blk_free hp.blk 9
                    simp only [pcells, List.getElem?_toArray, List.getElem?_cons_zero, List.getElem?_cons_succ] at c4 c5 c9
                    have hltb := blk_lt hp.blk
                    have HP := Lib.hid hp
                    clear hp
                    go_upto_region 12 with fail
                    go_region_law fail
                    all_goals
                      go_wp2_with fail
                      have k2 := ((((Keep.refl (fun k => k = b) wr).set (p := ⟨b, 4, none⟩) rfl (.string M)).set (p := ⟨b, 5, none⟩) rfl (.string T)).set (p := ⟨b, 9, none⟩) rfl (.int .u8 d.toNat)).drew
                      have p2 := HP.out.scal (p' := { p with meth := toL M, path := toL T, digit := d }) k2 (blk_set (blk_set (blk_set HP.out.blk 4 (.string M)) 5 (.string T)) 9 (.int .u8 d.toNat)) rfl rfl rfl
                      go_ret
                      refine hR _ _ ⟨ret_bool hyes.out.symm, ?_, (Keep.old HBR.out).trans k2 fun i _ h => .inr h⟩
                      rw [hyes.out, if_pos rfl, HN.out]
                      refine ⟨_, _, _, p2.mono (fun k _ h => ?_) (fun h => ?_)⟩
                      · have := HBR.out.size
                        rcases h with h | h
                        · exact .inl h.1
                        · exact .inr (by omega)
                      · have := HLB.out
                        rcases h with h | h
                        · exact HNS.out h
                        · omega
              · have HX := Lib.hid (HNO.out (by
                  rw [HF3.out, HH.out]
                  have : t ≠ 47 := fun e => h47 (by rw [e]; rfl)
                  simp [this]))
                have hI1 : ((t.toNat : Int) != 47) = true := by rw [bne_iff_ne]; omega
                go_wp2_with fail
                go_ret
                exact HX.out _ HB2.out
      · have HX := Lib.hid (HNO.out (by rw [HF.out, toL_len]; simp [h1]))
        have h1' : ((D.size : Int) == 1) = false := by rw [beq_eq_false_iff_ne]; omega
        have h1'' : ¬ ((D.size : Int) = 1) := by omega
        go_wp2_with fail
        go_ret
        exact HX.out _ HB2.out
end Go.Proofs.YtaihjnicondifaaDoor.Asc
