/-
  The law parapetlaw17.CorsWild answers true.
  The library's MaxLen is a number; arguments within the rows' own reach.
-/
import Derived.Test.YtalbadmefpdldaaDoorCorG
namespace Go.Proofs.YtalbadmefpdldaaDoor.Asc
open Go Go.RowKit Go.Proofs.YtalbadmefpdldaaDoor.Pb

def httpsB : ByteArray := ⟨#[104, 116, 116, 112, 115, 58, 47, 47, 97]⟩
theorem star_beq (M : ByteArray) : (M.toList == [42]) = (toL M == starT) := by rw [toList_toL]; rfl
theorem auth_int (k : Nat) (hk : k < 13) (c : UInt8) : (authT[k]? == some c) = ((c.toNat : Int) == ((authT[k]'hk).toNat : Int)) := by
  rw [List.getElem?_eq_getElem (show k < authT.length from hk), Bool.eq_iff_iff]
  simp only [beq_iff_eq, Option.some.injEq]
  constructor
  · rintro rfl; rfl
  · intro h
    have h2 : c.toNat = (authT[k]'hk).toNat := by omega
    exact (UInt8.toNat_inj.1 h2).symm

set_option maxRecDepth 20000 in
set_option maxHeartbeats 8000000 in
theorem wild_walk (M N : ByteArray) (m : Int) (w : World) (hm : MaxLen m w) (hM : M.size ≤ 140737488351232) (hN : N.size ≤ 140737488351232) :
    Calls Tryd.prog 6 #[.string M, .string N] w fun e w' => e = .returned (.bool true) ∧ Below w.heap.size w w' := by
  refine calls_gen fun R hR => ?_
  have HM := Lib.hid hm
  clear hm
  go_enter Tryd.func6, Tryd.ntmps6
  by_cases hsz : 300 < M.size + N.size
  · go_wp2_with fail
    refine (awake_any m w HM.out).mono ?_
    rintro e w1 ⟨rfl, hb1⟩
    go_wp2_with fail
    go_ret
    exact hR _ _ ⟨rfl, hb1⟩
  · have hM3 : M.size ≤ 300 := by omega
    have hN3 : N.size ≤ 300 := by omega
    have hN4 : ((N.size : Int) == 13) = decide ((toL N).length = 13) := by
      rw [toL_len, Bool.eq_iff_iff]; simp only [beq_iff_eq, decide_eq_true_eq]; omega
    obtain ⟨b13, hb13⟩ : ∃ b, decide ((toL N).length = 13) = b := ⟨_, rfl⟩
    have HB13 : Hid (sameAt (toL N) 0 = b13) := Lib.hid (by rw [sameAt_zero]; exact hb13)
    have HN13 : Hid (∀ k, k < N.size → sameAt (toL N) k = true → k < 13) := Lib.hid fun k hk h => by
      unfold sameAt at h
      rw [Bool.and_eq_true] at h
      have := of_decide_eq_true h.1
      rw [toL_len] at this; omega
    rw [hb13] at hN4
    clear hb13 hM hN
    obtain ⟨b0, hb0⟩ : ∃ b0, w.heap.size = b0 := ⟨_, rfl⟩
    obtain ⟨a1, ha1⟩ : ∃ a, w.alloc (.cells #[.string ⟨#[42]⟩] 9) = a := ⟨_, rfl⟩
    obtain ⟨a2, ha2⟩ : ∃ a, a1.alloc (.cells #[.string ⟨#[42]⟩] 9) = a := ⟨_, rfl⟩
    obtain ⟨a3, ha3⟩ : ∃ a, a2.alloc (.cells #[.string httpsB, .slice (some ⟨b0, 0, none⟩) 1 1, .slice (some ⟨b0 + 1, 0, none⟩) 1 1, .bool true] 24) = a := ⟨_, rfl⟩
    obtain ⟨a4, ha4⟩ : ∃ a, a3.alloc (.cells #[.string N, .string ⟨#[34]⟩] 34) = a := ⟨_, rfl⟩
    have s1 : a1.heap.size = b0 + 1 := by rw [← ha1, ← hb0]; simp
    have s2 : a2.heap.size = b0 + 1 + 1 := by rw [← ha2, ← s1]; simp
    have s3 : a3.heap.size = b0 + 1 + 1 + 1 := by rw [← ha3, ← s2]; simp
    have v1 := texts_lit w [starT] #[.string ⟨#[42]⟩] rfl (by decide) 1 rfl
    have v2 := texts_lit a1 [starT] #[.string ⟨#[42]⟩] rfl (by decide) 1 rfl
    have v4 := flds_lit (w := a3) [(toL N, quoT)] #[.string N, .string ⟨#[34]⟩] rfl (by simp) 1 rfl
    have g3 := blk_new a2 (.cells #[.string httpsB, .slice (some ⟨b0, 0, none⟩) 1 1, .slice (some ⟨b0 + 1, 0, none⟩) 1 1, .bool true] 24)
    have x1 : Ext w a1 := by rw [← ha1]; exact below_new w _
    have x2 : Ext a1 a2 := by rw [← ha2]; exact below_new a1 _
    have x3 : Ext a2 a3 := by rw [← ha3]; exact below_new a2 _
    have x4 : Ext a3 a4 := by rw [← ha4]; exact below_new a3 _
    rw [ha1, hb0] at v1
    rw [ha2, s1] at v2
    rw [ha3, s2] at g3
    rw [ha4, s3] at v4
    have HV1 : Hid (View Rp.str a4 (fun _ => True) [starT] (.slice (some ⟨b0, 0, none⟩) 1 1)) := Lib.hid (((((v1.below x2).below x3).below x4)).mono fun _ _ => trivial)
    have HV2 : Hid (View Rp.str a4 (fun _ => True) [starT] (.slice (some ⟨b0 + 1, 0, none⟩) 1 1)) := Lib.hid (((v2.below x3).below x4).mono fun _ _ => trivial)
    have HV4 : Hid (View fld a4 (fun _ => True) [(toL N, quoT)] (.slice (some ⟨b0 + 1 + 1 + 1, 0, none⟩) 1 1)) := Lib.hid (v4.mono fun _ _ => trivial)
    have HX : Hid (Ext w a4) := Lib.hid (Ext.trans (Ext.trans (Ext.trans x1 x2) x3) x4)
    obtain ⟨pb, hpb⟩ : ∃ pb, b0 + 1 + 1 = pb := ⟨_, rfl⟩
    rw [hpb] at g3
    have HC : Hid (∀ wy, Ext a4 wy → pb < wy.heap.size ∧ wy.cell? ⟨pb, 0, none⟩ = some (.string httpsB) ∧ wy.cell? ⟨pb, 1, none⟩ = some (.slice (some ⟨b0, 0, none⟩) 1 1) ∧ wy.cell? ⟨pb, 2, none⟩ = some (.slice (some ⟨b0 + 1, 0, none⟩) 1 1) ∧ wy.cell? ⟨pb, 3, none⟩ = some (.bool true)) := Lib.hid fun wy hy => by
      have he := Ext.trans x4 hy
      have c0 := blk_cell g3 0
      have c1 := blk_cell g3 1
      have c2 := blk_cell g3 2
      have c3 := blk_cell g3 3
      simp at c0 c1 c2 c3
      exact ⟨Nat.lt_of_lt_of_le (blk_lt g3) he.size, ext_cell he c0, ext_cell he c1, ext_cell he c2, ext_cell he c3⟩
    have HPB := Lib.hid hpb; have HB0 := Lib.hid hb0; have H1 := Lib.hid ha1; have H2 := Lib.hid ha2; have H3 := Lib.hid ha3; have H4 := Lib.hid ha4
    clear v1 v2 v4 g3 x1 x2 x3 x4 s1 s2 s3 hpb hb0 ha1 ha2 ha3 ha4
    go_upto_region 5 with fail
    rw [HB0.out, H1.out, H2.out]
    rw [show a2.alloc (.cells #[.string ⟨#[104, 116, 116, 112, 115, 58, 47, 47, 97]⟩, .slice (some ⟨b0, 0, none⟩) 1 1, .slice (some ⟨b0 + 1, 0, none⟩) 1 1, .bool true] 24) = a3 from H3.out, H4.out]
    obtain ⟨fv, hfv⟩ : ∃ fv, Value.slice (some ⟨b0 + 1 + 1 + 1, 0, none⟩) 1 1 = fv := ⟨_, rfl⟩
    rw [hfv] at HV4 ⊢
    rw [HPB.out]
    clear H1 H2 H3 H4 HPB hfv
    obtain ⟨mv, hmv⟩ : ∃ fv, Value.slice (some ⟨b0, 0, none⟩) 1 1 = fv := ⟨_, rfl⟩
    obtain ⟨hv, hhv⟩ : ∃ fv, Value.slice (some ⟨b0 + 1, 0, none⟩) 1 1 = fv := ⟨_, rfl⟩
    rw [hmv] at HV1 HC ⊢
    rw [hhv] at HV2 HC ⊢
    clear hmv hhv
    go_wp2_with fail
    go_loop [7, 8, 9] (fun sv i _ => ∃ (k : Nat) (b : Bool), k ≤ N.size ∧ i = .int .i64 k ∧ sv = .bool b ∧ Hid (sameAt (toL N) k = b)) (fun _ i _ => N.size - (intOf i).toNat)
    case atStart => exact ⟨0, b13, Nat.zero_le _, rfl, rfl, HB13⟩
    case round =>
      obtain ⟨k, b, hk, rfl, rfl, hb⟩ := hrel
      by_cases hgo : k < N.size ∧ b = true
      · obtain ⟨hlt, rfl⟩ := hgo
        have hk13 := HN13.out k hlt hb.out
        have hc : (toL N)[k]? = some N[k] := getD_toL N k hlt
        have HSU := Lib.hid (sameAt_succ (toL N) k _ hc hk13 hb.out)
        have HAU := Lib.hid (auth_int k hk13 (lowerB N[k]))
        clear hc
        have hq : k < (⟨#[97, 117, 116, 104, 111, 114, 105, 122, 97, 116, 105, 111, 110]⟩ : ByteArray).size := hk13
        by_cases hup : 65 ≤ N[k].toNat ∧ N[k].toNat ≤ 90
        · obtain ⟨hu1, hu2⟩ := hup
          have HL : Hid (((lowerB N[k]).toNat : Int) = (N[k].toNat : Int) + 32) := Lib.hid (by unfold lowerB; rw [if_pos ⟨hu1, hu2⟩, UInt8.toNat_add]; show (((N[k].toNat + 32) % 256 : Nat) : Int) = _; omega)
          go_wp2_with fail
          go_round
          case rel =>
            refine ⟨k + 1, _, by omega, by go_num, rfl, Lib.hid ?_⟩
            rw [HSU.out, HAU.out, HL.out]; rfl
          case measure => simp [intOf]; omega
        · have HL : Hid (((lowerB N[k]).toNat : Int) = (N[k].toNat : Int)) := Lib.hid (by unfold lowerB; rw [if_neg hup])
          go_wp2_with fail
          all_goals
            go_round
            case rel =>
              refine ⟨k + 1, _, by omega, by go_num, rfl, Lib.hid ?_⟩
              rw [HSU.out, HAU.out, HL.out]; rfl
            case measure => simp [intOf]; omega
      · have HEND : Hid (b = (lower (toL N) == authT)) := Lib.hid (sameAt_end (toL N) k b hb.out (by
          cases b with
          | false => exact .inl rfl
          | true => exact .inr (by rw [toL_len]; have : ¬ k < N.size := fun h => hgo ⟨h, rfl⟩; omega)))
        clear hb HN13 HB13
        -- the calls
        have HVW : Hid (∀ wy, Ext a4 wy → MaxLen m wy ∧ View Rp.str wy (fun _ => True) [starT] mv ∧ View Rp.str wy (fun _ => True) [starT] hv ∧ View fld wy (fun _ => True) [(toL N, quoT)] fv) := Lib.hid fun wy hy => by
          exact ⟨HM.out.below (Ext.trans HX.out hy), HV1.out.below hy, HV2.out.below hy, HV4.out.below hy⟩
        have HNL : Hid (∀ x ∈ [(toL N, quoT)], x.1.length ≤ 1000000 ∧ x.2.length ≤ 1000000) := Lib.hid fun x hx => by
          simp at hx; subst hx; exact ⟨by show (toL N).length ≤ _; rw [toL_len]; omega, by show quoT.length ≤ 1000000; decide⟩
        have HMS : Hid (M.size ≤ 1000000) := Lib.hid (by omega)
        have HF : Hid (∀ (X : ByteArray) (cr : Bool) (wy : World), X.size ≤ 1000000 → Ext a4 wy → Calls Tryd.prog 13 #[.agg #[.string httpsB, mv, hv, .bool true], .string X, fv, .bool cr] wy fun e w' => e = .returned (.bool (allowsN httpsA [starT] [starT] true (toL X) [(toL N, quoT)] cr)) ∧ Below wy.heap.size wy w') := Lib.hid fun X cr wy hX hy => by
          obtain ⟨u0, u1, u2, u3⟩ := HVW.out wy hy
          exact allows_any httpsB [starT] [starT] mv hv true _ X _ fv _ cr m wy u0 u1 u2 u3 hX (by simp) HNL.out (by decide) (by decide) (by decide)
        have HG : Hid (∀ (cr : Bool) (wy : World), Ext a4 wy → Calls Tryd.prog 13 #[.agg #[.string httpsB, mv, hv, .bool true], .string M, .slice none 0 0, .bool cr] wy fun e w' => e = .returned (.bool (allowsN httpsA [starT] [starT] true (toL M) [] cr)) ∧ Below wy.heap.size wy w') := Lib.hid fun cr wy hy => by
          obtain ⟨u0, u1, u2, _⟩ := HVW.out wy hy
          exact allows_any httpsB [starT] [starT] mv hv true _ M [] _ (fun _ => True) cr m wy u0 u1 u2 (View.nil _ _ _) HMS.out (by decide) (by simp) (by decide) (by decide) (by decide)
        have hst : Ext a4 a4 := Ext.refl a4
        obtain ⟨q0, q1, q2, q3, q4⟩ := HC.out a4 hst
        have eN := star_beq N
        have eM := star_beq M
        obtain ⟨ns, hns⟩ : ∃ ns, (toL N == starT) = ns := ⟨_, rfl⟩
        obtain ⟨mst, hmst⟩ : ∃ mst, (toL M == starT) = mst := ⟨_, rfl⟩
        rw [hns] at eN
        rw [hmst] at eM
        have HNS := Lib.hid hns; have HMS2 := Lib.hid hmst
        clear hns hmst
        have hgo' : ¬ (k < N.size ∧ b = true) := hgo
        have hexit : k < N.size → b = false := fun h => by cases b with | false => rfl | true => exact absurd ⟨h, rfl⟩ hgo
        clear hgo hgo'
        obtain ⟨si, hsi⟩ : ∃ si, simpleM (toL M) = si := ⟨_, rfl⟩
        have HSI := Lib.hid hsi
        clear hsi
        by_cases hlt : k < N.size
        · have hbf := hexit hlt
          subst hbf
          clear hexit
          cases si with
          | false =>
            cases mst with
            | false =>
              cases ns with
              | false =>
                go_wp2_with fail
                refine (HF.out M false a4 HMS.out hst).mono ?_
                rintro e w5 ⟨rfl, hb5⟩
                rw [wild1, ← HEND.out]
                have HEw5 : Hid (Ext a4 w5) := Lib.hid (Ext.trans hst hb5)
                clear hb5 q0 q1 q2 q3 q4
                obtain ⟨q0, q1, q2, q3, q4⟩ := HC.out w5 HEw5.out
                go_wp2_with fail
                refine (HG.out false w5 HEw5.out).mono ?_
                rintro e w6 ⟨rfl, hb5⟩
                rw [wild2 _ uns_nil]
                have HEw6 : Hid (Ext a4 w6) := Lib.hid (Ext.trans HEw5.out hb5)
                clear hb5 q0 q1 q2 q3 q4
                obtain ⟨q0, q1, q2, q3, q4⟩ := HC.out w6 HEw6.out
                go_wp2_with fail
                refine (HG.out true w6 HEw6.out).mono ?_
                rintro e w7 ⟨rfl, hb5⟩
                rw [wild3 _ uns_nil, HMS2.out, HSI.out]
                have HEw7 : Hid (Ext a4 w7) := Lib.hid (Ext.trans HEw6.out hb5)
                clear hb5 q0 q1 q2 q3 q4
                obtain ⟨q0, q1, q2, q3, q4⟩ := HC.out w7 HEw7.out
                go_wp2_with fail
                refine (simpleM_any M w7 HMS.out).mono ?_
                rintro e w8 ⟨rfl, hb5⟩
                rw [HSI.out]
                have HEw8 : Hid (Ext a4 w8) := Lib.hid (Ext.trans HEw7.out hb5)
                clear hb5 q0 q1 q2 q3 q4
                obtain ⟨q0, q1, q2, q3, q4⟩ := HC.out w8 HEw8.out
                go_wp2_with fail
                refine (HF.out ⟨#[71, 69, 84]⟩ true w8 (by decide) HEw8.out).mono ?_
                rintro e w9 ⟨rfl, hb5⟩
                rw [wild4 _ _ HNS.out]
                have HEw9 : Hid (Ext a4 w9) := Lib.hid (Ext.trans HEw8.out hb5)
                clear hb5 q0 q1 q2 q3 q4
                obtain ⟨q0, q1, q2, q3, q4⟩ := HC.out w9 HEw9.out
                go_wp2_with fail
                refine (awake_any m w9 (HVW.out w9 HEw9.out).1).mono ?_
                rintro e wz ⟨rfl, hbz⟩
                go_wp2_with fail
                go_ret
                exact hR _ _ ⟨rfl, Ext.trans (Ext.trans HX.out HEw9.out) hbz⟩
              | true =>
                go_wp2_with fail
                refine (HF.out M false a4 HMS.out hst).mono ?_
                rintro e w5 ⟨rfl, hb5⟩
                rw [wild1, ← HEND.out]
                have HEw5 : Hid (Ext a4 w5) := Lib.hid (Ext.trans hst hb5)
                clear hb5 q0 q1 q2 q3 q4
                obtain ⟨q0, q1, q2, q3, q4⟩ := HC.out w5 HEw5.out
                go_wp2_with fail
                refine (HG.out false w5 HEw5.out).mono ?_
                rintro e w6 ⟨rfl, hb5⟩
                rw [wild2 _ uns_nil]
                have HEw6 : Hid (Ext a4 w6) := Lib.hid (Ext.trans HEw5.out hb5)
                clear hb5 q0 q1 q2 q3 q4
                obtain ⟨q0, q1, q2, q3, q4⟩ := HC.out w6 HEw6.out
                go_wp2_with fail
                refine (HG.out true w6 HEw6.out).mono ?_
                rintro e w7 ⟨rfl, hb5⟩
                rw [wild3 _ uns_nil, HMS2.out, HSI.out]
                have HEw7 : Hid (Ext a4 w7) := Lib.hid (Ext.trans HEw6.out hb5)
                clear hb5 q0 q1 q2 q3 q4
                obtain ⟨q0, q1, q2, q3, q4⟩ := HC.out w7 HEw7.out
                go_wp2_with fail
                refine (simpleM_any M w7 HMS.out).mono ?_
                rintro e w8 ⟨rfl, hb5⟩
                rw [HSI.out]
                have HEw8 : Hid (Ext a4 w8) := Lib.hid (Ext.trans HEw7.out hb5)
                clear hb5 q0 q1 q2 q3 q4
                obtain ⟨q0, q1, q2, q3, q4⟩ := HC.out w8 HEw8.out
                go_wp2_with fail
                refine (awake_any m w8 (HVW.out w8 HEw8.out).1).mono ?_
                rintro e wz ⟨rfl, hbz⟩
                go_wp2_with fail
                go_ret
                exact hR _ _ ⟨rfl, Ext.trans (Ext.trans HX.out HEw8.out) hbz⟩
            | true =>
              cases ns with
              | false =>
                go_wp2_with fail
                refine (HF.out M false a4 HMS.out hst).mono ?_
                rintro e w5 ⟨rfl, hb5⟩
                rw [wild1, ← HEND.out]
                have HEw5 : Hid (Ext a4 w5) := Lib.hid (Ext.trans hst hb5)
                clear hb5 q0 q1 q2 q3 q4
                obtain ⟨q0, q1, q2, q3, q4⟩ := HC.out w5 HEw5.out
                go_wp2_with fail
                refine (HG.out false w5 HEw5.out).mono ?_
                rintro e w6 ⟨rfl, hb5⟩
                rw [wild2 _ uns_nil]
                have HEw6 : Hid (Ext a4 w6) := Lib.hid (Ext.trans HEw5.out hb5)
                clear hb5 q0 q1 q2 q3 q4
                obtain ⟨q0, q1, q2, q3, q4⟩ := HC.out w6 HEw6.out
                go_wp2_with fail
                refine (HG.out true w6 HEw6.out).mono ?_
                rintro e w7 ⟨rfl, hb5⟩
                rw [wild3 _ uns_nil, HMS2.out, HSI.out]
                have HEw7 : Hid (Ext a4 w7) := Lib.hid (Ext.trans HEw6.out hb5)
                clear hb5 q0 q1 q2 q3 q4
                obtain ⟨q0, q1, q2, q3, q4⟩ := HC.out w7 HEw7.out
                go_wp2_with fail
                refine (simpleM_any M w7 HMS.out).mono ?_
                rintro e w8 ⟨rfl, hb5⟩
                rw [HSI.out]
                have HEw8 : Hid (Ext a4 w8) := Lib.hid (Ext.trans HEw7.out hb5)
                clear hb5 q0 q1 q2 q3 q4
                obtain ⟨q0, q1, q2, q3, q4⟩ := HC.out w8 HEw8.out
                go_wp2_with fail
                refine (HF.out ⟨#[71, 69, 84]⟩ true w8 (by decide) HEw8.out).mono ?_
                rintro e w9 ⟨rfl, hb5⟩
                rw [wild4 _ _ HNS.out]
                have HEw9 : Hid (Ext a4 w9) := Lib.hid (Ext.trans HEw8.out hb5)
                clear hb5 q0 q1 q2 q3 q4
                obtain ⟨q0, q1, q2, q3, q4⟩ := HC.out w9 HEw9.out
                go_wp2_with fail
                refine (awake_any m w9 (HVW.out w9 HEw9.out).1).mono ?_
                rintro e wz ⟨rfl, hbz⟩
                go_wp2_with fail
                go_ret
                exact hR _ _ ⟨rfl, Ext.trans (Ext.trans HX.out HEw9.out) hbz⟩
              | true =>
                go_wp2_with fail
                refine (HF.out M false a4 HMS.out hst).mono ?_
                rintro e w5 ⟨rfl, hb5⟩
                rw [wild1, ← HEND.out]
                have HEw5 : Hid (Ext a4 w5) := Lib.hid (Ext.trans hst hb5)
                clear hb5 q0 q1 q2 q3 q4
                obtain ⟨q0, q1, q2, q3, q4⟩ := HC.out w5 HEw5.out
                go_wp2_with fail
                refine (HG.out false w5 HEw5.out).mono ?_
                rintro e w6 ⟨rfl, hb5⟩
                rw [wild2 _ uns_nil]
                have HEw6 : Hid (Ext a4 w6) := Lib.hid (Ext.trans HEw5.out hb5)
                clear hb5 q0 q1 q2 q3 q4
                obtain ⟨q0, q1, q2, q3, q4⟩ := HC.out w6 HEw6.out
                go_wp2_with fail
                refine (HG.out true w6 HEw6.out).mono ?_
                rintro e w7 ⟨rfl, hb5⟩
                rw [wild3 _ uns_nil, HMS2.out, HSI.out]
                have HEw7 : Hid (Ext a4 w7) := Lib.hid (Ext.trans HEw6.out hb5)
                clear hb5 q0 q1 q2 q3 q4
                obtain ⟨q0, q1, q2, q3, q4⟩ := HC.out w7 HEw7.out
                go_wp2_with fail
                refine (simpleM_any M w7 HMS.out).mono ?_
                rintro e w8 ⟨rfl, hb5⟩
                rw [HSI.out]
                have HEw8 : Hid (Ext a4 w8) := Lib.hid (Ext.trans HEw7.out hb5)
                clear hb5 q0 q1 q2 q3 q4
                obtain ⟨q0, q1, q2, q3, q4⟩ := HC.out w8 HEw8.out
                go_wp2_with fail
                refine (awake_any m w8 (HVW.out w8 HEw8.out).1).mono ?_
                rintro e wz ⟨rfl, hbz⟩
                go_wp2_with fail
                go_ret
                exact hR _ _ ⟨rfl, Ext.trans (Ext.trans HX.out HEw8.out) hbz⟩
          | true =>
            cases mst with
            | false =>
              cases ns with
              | false =>
                go_wp2_with fail
                refine (HF.out M false a4 HMS.out hst).mono ?_
                rintro e w5 ⟨rfl, hb5⟩
                rw [wild1, ← HEND.out]
                have HEw5 : Hid (Ext a4 w5) := Lib.hid (Ext.trans hst hb5)
                clear hb5 q0 q1 q2 q3 q4
                obtain ⟨q0, q1, q2, q3, q4⟩ := HC.out w5 HEw5.out
                go_wp2_with fail
                refine (HG.out false w5 HEw5.out).mono ?_
                rintro e w6 ⟨rfl, hb5⟩
                rw [wild2 _ uns_nil]
                have HEw6 : Hid (Ext a4 w6) := Lib.hid (Ext.trans HEw5.out hb5)
                clear hb5 q0 q1 q2 q3 q4
                obtain ⟨q0, q1, q2, q3, q4⟩ := HC.out w6 HEw6.out
                go_wp2_with fail
                refine (HG.out true w6 HEw6.out).mono ?_
                rintro e w7 ⟨rfl, hb5⟩
                rw [wild3 _ uns_nil, HMS2.out, HSI.out]
                have HEw7 : Hid (Ext a4 w7) := Lib.hid (Ext.trans HEw6.out hb5)
                clear hb5 q0 q1 q2 q3 q4
                obtain ⟨q0, q1, q2, q3, q4⟩ := HC.out w7 HEw7.out
                go_wp2_with fail
                refine (simpleM_any M w7 HMS.out).mono ?_
                rintro e w8 ⟨rfl, hb5⟩
                rw [HSI.out]
                have HEw8 : Hid (Ext a4 w8) := Lib.hid (Ext.trans HEw7.out hb5)
                clear hb5 q0 q1 q2 q3 q4
                obtain ⟨q0, q1, q2, q3, q4⟩ := HC.out w8 HEw8.out
                go_wp2_with fail
                refine (HF.out ⟨#[71, 69, 84]⟩ true w8 (by decide) HEw8.out).mono ?_
                rintro e w9 ⟨rfl, hb5⟩
                rw [wild4 _ _ HNS.out]
                have HEw9 : Hid (Ext a4 w9) := Lib.hid (Ext.trans HEw8.out hb5)
                clear hb5 q0 q1 q2 q3 q4
                obtain ⟨q0, q1, q2, q3, q4⟩ := HC.out w9 HEw9.out
                go_wp2_with fail
                refine (awake_any m w9 (HVW.out w9 HEw9.out).1).mono ?_
                rintro e wz ⟨rfl, hbz⟩
                go_wp2_with fail
                go_ret
                exact hR _ _ ⟨rfl, Ext.trans (Ext.trans HX.out HEw9.out) hbz⟩
              | true =>
                go_wp2_with fail
                refine (HF.out M false a4 HMS.out hst).mono ?_
                rintro e w5 ⟨rfl, hb5⟩
                rw [wild1, ← HEND.out]
                have HEw5 : Hid (Ext a4 w5) := Lib.hid (Ext.trans hst hb5)
                clear hb5 q0 q1 q2 q3 q4
                obtain ⟨q0, q1, q2, q3, q4⟩ := HC.out w5 HEw5.out
                go_wp2_with fail
                refine (HG.out false w5 HEw5.out).mono ?_
                rintro e w6 ⟨rfl, hb5⟩
                rw [wild2 _ uns_nil]
                have HEw6 : Hid (Ext a4 w6) := Lib.hid (Ext.trans HEw5.out hb5)
                clear hb5 q0 q1 q2 q3 q4
                obtain ⟨q0, q1, q2, q3, q4⟩ := HC.out w6 HEw6.out
                go_wp2_with fail
                refine (HG.out true w6 HEw6.out).mono ?_
                rintro e w7 ⟨rfl, hb5⟩
                rw [wild3 _ uns_nil, HMS2.out, HSI.out]
                have HEw7 : Hid (Ext a4 w7) := Lib.hid (Ext.trans HEw6.out hb5)
                clear hb5 q0 q1 q2 q3 q4
                obtain ⟨q0, q1, q2, q3, q4⟩ := HC.out w7 HEw7.out
                go_wp2_with fail
                refine (simpleM_any M w7 HMS.out).mono ?_
                rintro e w8 ⟨rfl, hb5⟩
                rw [HSI.out]
                have HEw8 : Hid (Ext a4 w8) := Lib.hid (Ext.trans HEw7.out hb5)
                clear hb5 q0 q1 q2 q3 q4
                obtain ⟨q0, q1, q2, q3, q4⟩ := HC.out w8 HEw8.out
                go_wp2_with fail
                refine (awake_any m w8 (HVW.out w8 HEw8.out).1).mono ?_
                rintro e wz ⟨rfl, hbz⟩
                go_wp2_with fail
                go_ret
                exact hR _ _ ⟨rfl, Ext.trans (Ext.trans HX.out HEw8.out) hbz⟩
            | true =>
              cases ns with
              | false =>
                go_wp2_with fail
                refine (HF.out M false a4 HMS.out hst).mono ?_
                rintro e w5 ⟨rfl, hb5⟩
                rw [wild1, ← HEND.out]
                have HEw5 : Hid (Ext a4 w5) := Lib.hid (Ext.trans hst hb5)
                clear hb5 q0 q1 q2 q3 q4
                obtain ⟨q0, q1, q2, q3, q4⟩ := HC.out w5 HEw5.out
                go_wp2_with fail
                refine (HG.out false w5 HEw5.out).mono ?_
                rintro e w6 ⟨rfl, hb5⟩
                rw [wild2 _ uns_nil]
                have HEw6 : Hid (Ext a4 w6) := Lib.hid (Ext.trans HEw5.out hb5)
                clear hb5 q0 q1 q2 q3 q4
                obtain ⟨q0, q1, q2, q3, q4⟩ := HC.out w6 HEw6.out
                go_wp2_with fail
                refine (HG.out true w6 HEw6.out).mono ?_
                rintro e w7 ⟨rfl, hb5⟩
                rw [wild3 _ uns_nil, HMS2.out, HSI.out]
                have HEw7 : Hid (Ext a4 w7) := Lib.hid (Ext.trans HEw6.out hb5)
                clear hb5 q0 q1 q2 q3 q4
                obtain ⟨q0, q1, q2, q3, q4⟩ := HC.out w7 HEw7.out
                go_wp2_with fail
                refine (simpleM_any M w7 HMS.out).mono ?_
                rintro e w8 ⟨rfl, hb5⟩
                rw [HSI.out]
                have HEw8 : Hid (Ext a4 w8) := Lib.hid (Ext.trans HEw7.out hb5)
                clear hb5 q0 q1 q2 q3 q4
                obtain ⟨q0, q1, q2, q3, q4⟩ := HC.out w8 HEw8.out
                go_wp2_with fail
                refine (HF.out ⟨#[71, 69, 84]⟩ true w8 (by decide) HEw8.out).mono ?_
                rintro e w9 ⟨rfl, hb5⟩
                rw [wild4 _ _ HNS.out]
                have HEw9 : Hid (Ext a4 w9) := Lib.hid (Ext.trans HEw8.out hb5)
                clear hb5 q0 q1 q2 q3 q4
                obtain ⟨q0, q1, q2, q3, q4⟩ := HC.out w9 HEw9.out
                go_wp2_with fail
                refine (awake_any m w9 (HVW.out w9 HEw9.out).1).mono ?_
                rintro e wz ⟨rfl, hbz⟩
                go_wp2_with fail
                go_ret
                exact hR _ _ ⟨rfl, Ext.trans (Ext.trans HX.out HEw9.out) hbz⟩
              | true =>
                go_wp2_with fail
                refine (HF.out M false a4 HMS.out hst).mono ?_
                rintro e w5 ⟨rfl, hb5⟩
                rw [wild1, ← HEND.out]
                have HEw5 : Hid (Ext a4 w5) := Lib.hid (Ext.trans hst hb5)
                clear hb5 q0 q1 q2 q3 q4
                obtain ⟨q0, q1, q2, q3, q4⟩ := HC.out w5 HEw5.out
                go_wp2_with fail
                refine (HG.out false w5 HEw5.out).mono ?_
                rintro e w6 ⟨rfl, hb5⟩
                rw [wild2 _ uns_nil]
                have HEw6 : Hid (Ext a4 w6) := Lib.hid (Ext.trans HEw5.out hb5)
                clear hb5 q0 q1 q2 q3 q4
                obtain ⟨q0, q1, q2, q3, q4⟩ := HC.out w6 HEw6.out
                go_wp2_with fail
                refine (HG.out true w6 HEw6.out).mono ?_
                rintro e w7 ⟨rfl, hb5⟩
                rw [wild3 _ uns_nil, HMS2.out, HSI.out]
                have HEw7 : Hid (Ext a4 w7) := Lib.hid (Ext.trans HEw6.out hb5)
                clear hb5 q0 q1 q2 q3 q4
                obtain ⟨q0, q1, q2, q3, q4⟩ := HC.out w7 HEw7.out
                go_wp2_with fail
                refine (simpleM_any M w7 HMS.out).mono ?_
                rintro e w8 ⟨rfl, hb5⟩
                rw [HSI.out]
                have HEw8 : Hid (Ext a4 w8) := Lib.hid (Ext.trans HEw7.out hb5)
                clear hb5 q0 q1 q2 q3 q4
                obtain ⟨q0, q1, q2, q3, q4⟩ := HC.out w8 HEw8.out
                go_wp2_with fail
                refine (awake_any m w8 (HVW.out w8 HEw8.out).1).mono ?_
                rintro e wz ⟨rfl, hbz⟩
                go_wp2_with fail
                go_ret
                exact hR _ _ ⟨rfl, Ext.trans (Ext.trans HX.out HEw8.out) hbz⟩
        · clear hexit
          cases b with
          | false =>
            cases si with
            | false =>
              cases mst with
              | false =>
                cases ns with
                | false =>
                  go_wp2_with fail
                  refine (HF.out M false a4 HMS.out hst).mono ?_
                  rintro e w5 ⟨rfl, hb5⟩
                  rw [wild1, ← HEND.out]
                  have HEw5 : Hid (Ext a4 w5) := Lib.hid (Ext.trans hst hb5)
                  clear hb5 q0 q1 q2 q3 q4
                  obtain ⟨q0, q1, q2, q3, q4⟩ := HC.out w5 HEw5.out
                  go_wp2_with fail
                  refine (HG.out false w5 HEw5.out).mono ?_
                  rintro e w6 ⟨rfl, hb5⟩
                  rw [wild2 _ uns_nil]
                  have HEw6 : Hid (Ext a4 w6) := Lib.hid (Ext.trans HEw5.out hb5)
                  clear hb5 q0 q1 q2 q3 q4
                  obtain ⟨q0, q1, q2, q3, q4⟩ := HC.out w6 HEw6.out
                  go_wp2_with fail
                  refine (HG.out true w6 HEw6.out).mono ?_
                  rintro e w7 ⟨rfl, hb5⟩
                  rw [wild3 _ uns_nil, HMS2.out, HSI.out]
                  have HEw7 : Hid (Ext a4 w7) := Lib.hid (Ext.trans HEw6.out hb5)
                  clear hb5 q0 q1 q2 q3 q4
                  obtain ⟨q0, q1, q2, q3, q4⟩ := HC.out w7 HEw7.out
                  go_wp2_with fail
                  refine (simpleM_any M w7 HMS.out).mono ?_
                  rintro e w8 ⟨rfl, hb5⟩
                  rw [HSI.out]
                  have HEw8 : Hid (Ext a4 w8) := Lib.hid (Ext.trans HEw7.out hb5)
                  clear hb5 q0 q1 q2 q3 q4
                  obtain ⟨q0, q1, q2, q3, q4⟩ := HC.out w8 HEw8.out
                  go_wp2_with fail
                  refine (HF.out ⟨#[71, 69, 84]⟩ true w8 (by decide) HEw8.out).mono ?_
                  rintro e w9 ⟨rfl, hb5⟩
                  rw [wild4 _ _ HNS.out]
                  have HEw9 : Hid (Ext a4 w9) := Lib.hid (Ext.trans HEw8.out hb5)
                  clear hb5 q0 q1 q2 q3 q4
                  obtain ⟨q0, q1, q2, q3, q4⟩ := HC.out w9 HEw9.out
                  go_wp2_with fail
                  refine (awake_any m w9 (HVW.out w9 HEw9.out).1).mono ?_
                  rintro e wz ⟨rfl, hbz⟩
                  go_wp2_with fail
                  go_ret
                  exact hR _ _ ⟨rfl, Ext.trans (Ext.trans HX.out HEw9.out) hbz⟩
                | true =>
                  go_wp2_with fail
                  refine (HF.out M false a4 HMS.out hst).mono ?_
                  rintro e w5 ⟨rfl, hb5⟩
                  rw [wild1, ← HEND.out]
                  have HEw5 : Hid (Ext a4 w5) := Lib.hid (Ext.trans hst hb5)
                  clear hb5 q0 q1 q2 q3 q4
                  obtain ⟨q0, q1, q2, q3, q4⟩ := HC.out w5 HEw5.out
                  go_wp2_with fail
                  refine (HG.out false w5 HEw5.out).mono ?_
                  rintro e w6 ⟨rfl, hb5⟩
                  rw [wild2 _ uns_nil]
                  have HEw6 : Hid (Ext a4 w6) := Lib.hid (Ext.trans HEw5.out hb5)
                  clear hb5 q0 q1 q2 q3 q4
                  obtain ⟨q0, q1, q2, q3, q4⟩ := HC.out w6 HEw6.out
                  go_wp2_with fail
                  refine (HG.out true w6 HEw6.out).mono ?_
                  rintro e w7 ⟨rfl, hb5⟩
                  rw [wild3 _ uns_nil, HMS2.out, HSI.out]
                  have HEw7 : Hid (Ext a4 w7) := Lib.hid (Ext.trans HEw6.out hb5)
                  clear hb5 q0 q1 q2 q3 q4
                  obtain ⟨q0, q1, q2, q3, q4⟩ := HC.out w7 HEw7.out
                  go_wp2_with fail
                  refine (simpleM_any M w7 HMS.out).mono ?_
                  rintro e w8 ⟨rfl, hb5⟩
                  rw [HSI.out]
                  have HEw8 : Hid (Ext a4 w8) := Lib.hid (Ext.trans HEw7.out hb5)
                  clear hb5 q0 q1 q2 q3 q4
                  obtain ⟨q0, q1, q2, q3, q4⟩ := HC.out w8 HEw8.out
                  go_wp2_with fail
                  refine (awake_any m w8 (HVW.out w8 HEw8.out).1).mono ?_
                  rintro e wz ⟨rfl, hbz⟩
                  go_wp2_with fail
                  go_ret
                  exact hR _ _ ⟨rfl, Ext.trans (Ext.trans HX.out HEw8.out) hbz⟩
              | true =>
                cases ns with
                | false =>
                  go_wp2_with fail
                  refine (HF.out M false a4 HMS.out hst).mono ?_
                  rintro e w5 ⟨rfl, hb5⟩
                  rw [wild1, ← HEND.out]
                  have HEw5 : Hid (Ext a4 w5) := Lib.hid (Ext.trans hst hb5)
                  clear hb5 q0 q1 q2 q3 q4
                  obtain ⟨q0, q1, q2, q3, q4⟩ := HC.out w5 HEw5.out
                  go_wp2_with fail
                  refine (HG.out false w5 HEw5.out).mono ?_
                  rintro e w6 ⟨rfl, hb5⟩
                  rw [wild2 _ uns_nil]
                  have HEw6 : Hid (Ext a4 w6) := Lib.hid (Ext.trans HEw5.out hb5)
                  clear hb5 q0 q1 q2 q3 q4
                  obtain ⟨q0, q1, q2, q3, q4⟩ := HC.out w6 HEw6.out
                  go_wp2_with fail
                  refine (HG.out true w6 HEw6.out).mono ?_
                  rintro e w7 ⟨rfl, hb5⟩
                  rw [wild3 _ uns_nil, HMS2.out, HSI.out]
                  have HEw7 : Hid (Ext a4 w7) := Lib.hid (Ext.trans HEw6.out hb5)
                  clear hb5 q0 q1 q2 q3 q4
                  obtain ⟨q0, q1, q2, q3, q4⟩ := HC.out w7 HEw7.out
                  go_wp2_with fail
                  refine (simpleM_any M w7 HMS.out).mono ?_
                  rintro e w8 ⟨rfl, hb5⟩
                  rw [HSI.out]
                  have HEw8 : Hid (Ext a4 w8) := Lib.hid (Ext.trans HEw7.out hb5)
                  clear hb5 q0 q1 q2 q3 q4
                  obtain ⟨q0, q1, q2, q3, q4⟩ := HC.out w8 HEw8.out
                  go_wp2_with fail
                  refine (HF.out ⟨#[71, 69, 84]⟩ true w8 (by decide) HEw8.out).mono ?_
                  rintro e w9 ⟨rfl, hb5⟩
                  rw [wild4 _ _ HNS.out]
                  have HEw9 : Hid (Ext a4 w9) := Lib.hid (Ext.trans HEw8.out hb5)
                  clear hb5 q0 q1 q2 q3 q4
                  obtain ⟨q0, q1, q2, q3, q4⟩ := HC.out w9 HEw9.out
                  go_wp2_with fail
                  refine (awake_any m w9 (HVW.out w9 HEw9.out).1).mono ?_
                  rintro e wz ⟨rfl, hbz⟩
                  go_wp2_with fail
                  go_ret
                  exact hR _ _ ⟨rfl, Ext.trans (Ext.trans HX.out HEw9.out) hbz⟩
                | true =>
                  go_wp2_with fail
                  refine (HF.out M false a4 HMS.out hst).mono ?_
                  rintro e w5 ⟨rfl, hb5⟩
                  rw [wild1, ← HEND.out]
                  have HEw5 : Hid (Ext a4 w5) := Lib.hid (Ext.trans hst hb5)
                  clear hb5 q0 q1 q2 q3 q4
                  obtain ⟨q0, q1, q2, q3, q4⟩ := HC.out w5 HEw5.out
                  go_wp2_with fail
                  refine (HG.out false w5 HEw5.out).mono ?_
                  rintro e w6 ⟨rfl, hb5⟩
                  rw [wild2 _ uns_nil]
                  have HEw6 : Hid (Ext a4 w6) := Lib.hid (Ext.trans HEw5.out hb5)
                  clear hb5 q0 q1 q2 q3 q4
                  obtain ⟨q0, q1, q2, q3, q4⟩ := HC.out w6 HEw6.out
                  go_wp2_with fail
                  refine (HG.out true w6 HEw6.out).mono ?_
                  rintro e w7 ⟨rfl, hb5⟩
                  rw [wild3 _ uns_nil, HMS2.out, HSI.out]
                  have HEw7 : Hid (Ext a4 w7) := Lib.hid (Ext.trans HEw6.out hb5)
                  clear hb5 q0 q1 q2 q3 q4
                  obtain ⟨q0, q1, q2, q3, q4⟩ := HC.out w7 HEw7.out
                  go_wp2_with fail
                  refine (simpleM_any M w7 HMS.out).mono ?_
                  rintro e w8 ⟨rfl, hb5⟩
                  rw [HSI.out]
                  have HEw8 : Hid (Ext a4 w8) := Lib.hid (Ext.trans HEw7.out hb5)
                  clear hb5 q0 q1 q2 q3 q4
                  obtain ⟨q0, q1, q2, q3, q4⟩ := HC.out w8 HEw8.out
                  go_wp2_with fail
                  refine (awake_any m w8 (HVW.out w8 HEw8.out).1).mono ?_
                  rintro e wz ⟨rfl, hbz⟩
                  go_wp2_with fail
                  go_ret
                  exact hR _ _ ⟨rfl, Ext.trans (Ext.trans HX.out HEw8.out) hbz⟩
            | true =>
              cases mst with
              | false =>
                cases ns with
                | false =>
                  go_wp2_with fail
                  refine (HF.out M false a4 HMS.out hst).mono ?_
                  rintro e w5 ⟨rfl, hb5⟩
                  rw [wild1, ← HEND.out]
                  have HEw5 : Hid (Ext a4 w5) := Lib.hid (Ext.trans hst hb5)
                  clear hb5 q0 q1 q2 q3 q4
                  obtain ⟨q0, q1, q2, q3, q4⟩ := HC.out w5 HEw5.out
                  go_wp2_with fail
                  refine (HG.out false w5 HEw5.out).mono ?_
                  rintro e w6 ⟨rfl, hb5⟩
                  rw [wild2 _ uns_nil]
                  have HEw6 : Hid (Ext a4 w6) := Lib.hid (Ext.trans HEw5.out hb5)
                  clear hb5 q0 q1 q2 q3 q4
                  obtain ⟨q0, q1, q2, q3, q4⟩ := HC.out w6 HEw6.out
                  go_wp2_with fail
                  refine (HG.out true w6 HEw6.out).mono ?_
                  rintro e w7 ⟨rfl, hb5⟩
                  rw [wild3 _ uns_nil, HMS2.out, HSI.out]
                  have HEw7 : Hid (Ext a4 w7) := Lib.hid (Ext.trans HEw6.out hb5)
                  clear hb5 q0 q1 q2 q3 q4
                  obtain ⟨q0, q1, q2, q3, q4⟩ := HC.out w7 HEw7.out
                  go_wp2_with fail
                  refine (simpleM_any M w7 HMS.out).mono ?_
                  rintro e w8 ⟨rfl, hb5⟩
                  rw [HSI.out]
                  have HEw8 : Hid (Ext a4 w8) := Lib.hid (Ext.trans HEw7.out hb5)
                  clear hb5 q0 q1 q2 q3 q4
                  obtain ⟨q0, q1, q2, q3, q4⟩ := HC.out w8 HEw8.out
                  go_wp2_with fail
                  refine (HF.out ⟨#[71, 69, 84]⟩ true w8 (by decide) HEw8.out).mono ?_
                  rintro e w9 ⟨rfl, hb5⟩
                  rw [wild4 _ _ HNS.out]
                  have HEw9 : Hid (Ext a4 w9) := Lib.hid (Ext.trans HEw8.out hb5)
                  clear hb5 q0 q1 q2 q3 q4
                  obtain ⟨q0, q1, q2, q3, q4⟩ := HC.out w9 HEw9.out
                  go_wp2_with fail
                  refine (awake_any m w9 (HVW.out w9 HEw9.out).1).mono ?_
                  rintro e wz ⟨rfl, hbz⟩
                  go_wp2_with fail
                  go_ret
                  exact hR _ _ ⟨rfl, Ext.trans (Ext.trans HX.out HEw9.out) hbz⟩
                | true =>
                  go_wp2_with fail
                  refine (HF.out M false a4 HMS.out hst).mono ?_
                  rintro e w5 ⟨rfl, hb5⟩
                  rw [wild1, ← HEND.out]
                  have HEw5 : Hid (Ext a4 w5) := Lib.hid (Ext.trans hst hb5)
                  clear hb5 q0 q1 q2 q3 q4
                  obtain ⟨q0, q1, q2, q3, q4⟩ := HC.out w5 HEw5.out
                  go_wp2_with fail
                  refine (HG.out false w5 HEw5.out).mono ?_
                  rintro e w6 ⟨rfl, hb5⟩
                  rw [wild2 _ uns_nil]
                  have HEw6 : Hid (Ext a4 w6) := Lib.hid (Ext.trans HEw5.out hb5)
                  clear hb5 q0 q1 q2 q3 q4
                  obtain ⟨q0, q1, q2, q3, q4⟩ := HC.out w6 HEw6.out
                  go_wp2_with fail
                  refine (HG.out true w6 HEw6.out).mono ?_
                  rintro e w7 ⟨rfl, hb5⟩
                  rw [wild3 _ uns_nil, HMS2.out, HSI.out]
                  have HEw7 : Hid (Ext a4 w7) := Lib.hid (Ext.trans HEw6.out hb5)
                  clear hb5 q0 q1 q2 q3 q4
                  obtain ⟨q0, q1, q2, q3, q4⟩ := HC.out w7 HEw7.out
                  go_wp2_with fail
                  refine (simpleM_any M w7 HMS.out).mono ?_
                  rintro e w8 ⟨rfl, hb5⟩
                  rw [HSI.out]
                  have HEw8 : Hid (Ext a4 w8) := Lib.hid (Ext.trans HEw7.out hb5)
                  clear hb5 q0 q1 q2 q3 q4
                  obtain ⟨q0, q1, q2, q3, q4⟩ := HC.out w8 HEw8.out
                  go_wp2_with fail
                  refine (awake_any m w8 (HVW.out w8 HEw8.out).1).mono ?_
                  rintro e wz ⟨rfl, hbz⟩
                  go_wp2_with fail
                  go_ret
                  exact hR _ _ ⟨rfl, Ext.trans (Ext.trans HX.out HEw8.out) hbz⟩
              | true =>
                cases ns with
                | false =>
                  go_wp2_with fail
                  refine (HF.out M false a4 HMS.out hst).mono ?_
                  rintro e w5 ⟨rfl, hb5⟩
                  rw [wild1, ← HEND.out]
                  have HEw5 : Hid (Ext a4 w5) := Lib.hid (Ext.trans hst hb5)
                  clear hb5 q0 q1 q2 q3 q4
                  obtain ⟨q0, q1, q2, q3, q4⟩ := HC.out w5 HEw5.out
                  go_wp2_with fail
                  refine (HG.out false w5 HEw5.out).mono ?_
                  rintro e w6 ⟨rfl, hb5⟩
                  rw [wild2 _ uns_nil]
                  have HEw6 : Hid (Ext a4 w6) := Lib.hid (Ext.trans HEw5.out hb5)
                  clear hb5 q0 q1 q2 q3 q4
                  obtain ⟨q0, q1, q2, q3, q4⟩ := HC.out w6 HEw6.out
                  go_wp2_with fail
                  refine (HG.out true w6 HEw6.out).mono ?_
                  rintro e w7 ⟨rfl, hb5⟩
                  rw [wild3 _ uns_nil, HMS2.out, HSI.out]
                  have HEw7 : Hid (Ext a4 w7) := Lib.hid (Ext.trans HEw6.out hb5)
                  clear hb5 q0 q1 q2 q3 q4
                  obtain ⟨q0, q1, q2, q3, q4⟩ := HC.out w7 HEw7.out
                  go_wp2_with fail
                  refine (simpleM_any M w7 HMS.out).mono ?_
                  rintro e w8 ⟨rfl, hb5⟩
                  rw [HSI.out]
                  have HEw8 : Hid (Ext a4 w8) := Lib.hid (Ext.trans HEw7.out hb5)
                  clear hb5 q0 q1 q2 q3 q4
                  obtain ⟨q0, q1, q2, q3, q4⟩ := HC.out w8 HEw8.out
                  go_wp2_with fail
                  refine (HF.out ⟨#[71, 69, 84]⟩ true w8 (by decide) HEw8.out).mono ?_
                  rintro e w9 ⟨rfl, hb5⟩
                  rw [wild4 _ _ HNS.out]
                  have HEw9 : Hid (Ext a4 w9) := Lib.hid (Ext.trans HEw8.out hb5)
                  clear hb5 q0 q1 q2 q3 q4
                  obtain ⟨q0, q1, q2, q3, q4⟩ := HC.out w9 HEw9.out
                  go_wp2_with fail
                  refine (awake_any m w9 (HVW.out w9 HEw9.out).1).mono ?_
                  rintro e wz ⟨rfl, hbz⟩
                  go_wp2_with fail
                  go_ret
                  exact hR _ _ ⟨rfl, Ext.trans (Ext.trans HX.out HEw9.out) hbz⟩
                | true =>
                  go_wp2_with fail
                  refine (HF.out M false a4 HMS.out hst).mono ?_
                  rintro e w5 ⟨rfl, hb5⟩
                  rw [wild1, ← HEND.out]
                  have HEw5 : Hid (Ext a4 w5) := Lib.hid (Ext.trans hst hb5)
                  clear hb5 q0 q1 q2 q3 q4
                  obtain ⟨q0, q1, q2, q3, q4⟩ := HC.out w5 HEw5.out
                  go_wp2_with fail
                  refine (HG.out false w5 HEw5.out).mono ?_
                  rintro e w6 ⟨rfl, hb5⟩
                  rw [wild2 _ uns_nil]
                  have HEw6 : Hid (Ext a4 w6) := Lib.hid (Ext.trans HEw5.out hb5)
                  clear hb5 q0 q1 q2 q3 q4
                  obtain ⟨q0, q1, q2, q3, q4⟩ := HC.out w6 HEw6.out
                  go_wp2_with fail
                  refine (HG.out true w6 HEw6.out).mono ?_
                  rintro e w7 ⟨rfl, hb5⟩
                  rw [wild3 _ uns_nil, HMS2.out, HSI.out]
                  have HEw7 : Hid (Ext a4 w7) := Lib.hid (Ext.trans HEw6.out hb5)
                  clear hb5 q0 q1 q2 q3 q4
                  obtain ⟨q0, q1, q2, q3, q4⟩ := HC.out w7 HEw7.out
                  go_wp2_with fail
                  refine (simpleM_any M w7 HMS.out).mono ?_
                  rintro e w8 ⟨rfl, hb5⟩
                  rw [HSI.out]
                  have HEw8 : Hid (Ext a4 w8) := Lib.hid (Ext.trans HEw7.out hb5)
                  clear hb5 q0 q1 q2 q3 q4
                  obtain ⟨q0, q1, q2, q3, q4⟩ := HC.out w8 HEw8.out
                  go_wp2_with fail
                  refine (awake_any m w8 (HVW.out w8 HEw8.out).1).mono ?_
                  rintro e wz ⟨rfl, hbz⟩
                  go_wp2_with fail
                  go_ret
                  exact hR _ _ ⟨rfl, Ext.trans (Ext.trans HX.out HEw8.out) hbz⟩
          | true =>
            cases si with
            | false =>
              cases mst with
              | false =>
                cases ns with
                | false =>
                  go_wp2_with fail
                  refine (HF.out M false a4 HMS.out hst).mono ?_
                  rintro e w5 ⟨rfl, hb5⟩
                  rw [wild1, ← HEND.out]
                  have HEw5 : Hid (Ext a4 w5) := Lib.hid (Ext.trans hst hb5)
                  clear hb5 q0 q1 q2 q3 q4
                  obtain ⟨q0, q1, q2, q3, q4⟩ := HC.out w5 HEw5.out
                  go_wp2_with fail
                  refine (HG.out false w5 HEw5.out).mono ?_
                  rintro e w6 ⟨rfl, hb5⟩
                  rw [wild2 _ uns_nil]
                  have HEw6 : Hid (Ext a4 w6) := Lib.hid (Ext.trans HEw5.out hb5)
                  clear hb5 q0 q1 q2 q3 q4
                  obtain ⟨q0, q1, q2, q3, q4⟩ := HC.out w6 HEw6.out
                  go_wp2_with fail
                  refine (HG.out true w6 HEw6.out).mono ?_
                  rintro e w7 ⟨rfl, hb5⟩
                  rw [wild3 _ uns_nil, HMS2.out, HSI.out]
                  have HEw7 : Hid (Ext a4 w7) := Lib.hid (Ext.trans HEw6.out hb5)
                  clear hb5 q0 q1 q2 q3 q4
                  obtain ⟨q0, q1, q2, q3, q4⟩ := HC.out w7 HEw7.out
                  go_wp2_with fail
                  refine (simpleM_any M w7 HMS.out).mono ?_
                  rintro e w8 ⟨rfl, hb5⟩
                  rw [HSI.out]
                  have HEw8 : Hid (Ext a4 w8) := Lib.hid (Ext.trans HEw7.out hb5)
                  clear hb5 q0 q1 q2 q3 q4
                  obtain ⟨q0, q1, q2, q3, q4⟩ := HC.out w8 HEw8.out
                  go_wp2_with fail
                  refine (HF.out ⟨#[71, 69, 84]⟩ true w8 (by decide) HEw8.out).mono ?_
                  rintro e w9 ⟨rfl, hb5⟩
                  rw [wild4 _ _ HNS.out]
                  have HEw9 : Hid (Ext a4 w9) := Lib.hid (Ext.trans HEw8.out hb5)
                  clear hb5 q0 q1 q2 q3 q4
                  obtain ⟨q0, q1, q2, q3, q4⟩ := HC.out w9 HEw9.out
                  go_wp2_with fail
                  refine (awake_any m w9 (HVW.out w9 HEw9.out).1).mono ?_
                  rintro e wz ⟨rfl, hbz⟩
                  go_wp2_with fail
                  go_ret
                  exact hR _ _ ⟨rfl, Ext.trans (Ext.trans HX.out HEw9.out) hbz⟩
                | true =>
                  go_wp2_with fail
                  refine (HF.out M false a4 HMS.out hst).mono ?_
                  rintro e w5 ⟨rfl, hb5⟩
                  rw [wild1, ← HEND.out]
                  have HEw5 : Hid (Ext a4 w5) := Lib.hid (Ext.trans hst hb5)
                  clear hb5 q0 q1 q2 q3 q4
                  obtain ⟨q0, q1, q2, q3, q4⟩ := HC.out w5 HEw5.out
                  go_wp2_with fail
                  refine (HG.out false w5 HEw5.out).mono ?_
                  rintro e w6 ⟨rfl, hb5⟩
                  rw [wild2 _ uns_nil]
                  have HEw6 : Hid (Ext a4 w6) := Lib.hid (Ext.trans HEw5.out hb5)
                  clear hb5 q0 q1 q2 q3 q4
                  obtain ⟨q0, q1, q2, q3, q4⟩ := HC.out w6 HEw6.out
                  go_wp2_with fail
                  refine (HG.out true w6 HEw6.out).mono ?_
                  rintro e w7 ⟨rfl, hb5⟩
                  rw [wild3 _ uns_nil, HMS2.out, HSI.out]
                  have HEw7 : Hid (Ext a4 w7) := Lib.hid (Ext.trans HEw6.out hb5)
                  clear hb5 q0 q1 q2 q3 q4
                  obtain ⟨q0, q1, q2, q3, q4⟩ := HC.out w7 HEw7.out
                  go_wp2_with fail
                  refine (simpleM_any M w7 HMS.out).mono ?_
                  rintro e w8 ⟨rfl, hb5⟩
                  rw [HSI.out]
                  have HEw8 : Hid (Ext a4 w8) := Lib.hid (Ext.trans HEw7.out hb5)
                  clear hb5 q0 q1 q2 q3 q4
                  obtain ⟨q0, q1, q2, q3, q4⟩ := HC.out w8 HEw8.out
                  go_wp2_with fail
                  refine (awake_any m w8 (HVW.out w8 HEw8.out).1).mono ?_
                  rintro e wz ⟨rfl, hbz⟩
                  go_wp2_with fail
                  go_ret
                  exact hR _ _ ⟨rfl, Ext.trans (Ext.trans HX.out HEw8.out) hbz⟩
              | true =>
                cases ns with
                | false =>
                  go_wp2_with fail
                  refine (HF.out M false a4 HMS.out hst).mono ?_
                  rintro e w5 ⟨rfl, hb5⟩
                  rw [wild1, ← HEND.out]
                  have HEw5 : Hid (Ext a4 w5) := Lib.hid (Ext.trans hst hb5)
                  clear hb5 q0 q1 q2 q3 q4
                  obtain ⟨q0, q1, q2, q3, q4⟩ := HC.out w5 HEw5.out
                  go_wp2_with fail
                  refine (HG.out false w5 HEw5.out).mono ?_
                  rintro e w6 ⟨rfl, hb5⟩
                  rw [wild2 _ uns_nil]
                  have HEw6 : Hid (Ext a4 w6) := Lib.hid (Ext.trans HEw5.out hb5)
                  clear hb5 q0 q1 q2 q3 q4
                  obtain ⟨q0, q1, q2, q3, q4⟩ := HC.out w6 HEw6.out
                  go_wp2_with fail
                  refine (HG.out true w6 HEw6.out).mono ?_
                  rintro e w7 ⟨rfl, hb5⟩
                  rw [wild3 _ uns_nil, HMS2.out, HSI.out]
                  have HEw7 : Hid (Ext a4 w7) := Lib.hid (Ext.trans HEw6.out hb5)
                  clear hb5 q0 q1 q2 q3 q4
                  obtain ⟨q0, q1, q2, q3, q4⟩ := HC.out w7 HEw7.out
                  go_wp2_with fail
                  refine (simpleM_any M w7 HMS.out).mono ?_
                  rintro e w8 ⟨rfl, hb5⟩
                  rw [HSI.out]
                  have HEw8 : Hid (Ext a4 w8) := Lib.hid (Ext.trans HEw7.out hb5)
                  clear hb5 q0 q1 q2 q3 q4
                  obtain ⟨q0, q1, q2, q3, q4⟩ := HC.out w8 HEw8.out
                  go_wp2_with fail
                  refine (HF.out ⟨#[71, 69, 84]⟩ true w8 (by decide) HEw8.out).mono ?_
                  rintro e w9 ⟨rfl, hb5⟩
                  rw [wild4 _ _ HNS.out]
                  have HEw9 : Hid (Ext a4 w9) := Lib.hid (Ext.trans HEw8.out hb5)
                  clear hb5 q0 q1 q2 q3 q4
                  obtain ⟨q0, q1, q2, q3, q4⟩ := HC.out w9 HEw9.out
                  go_wp2_with fail
                  refine (awake_any m w9 (HVW.out w9 HEw9.out).1).mono ?_
                  rintro e wz ⟨rfl, hbz⟩
                  go_wp2_with fail
                  go_ret
                  exact hR _ _ ⟨rfl, Ext.trans (Ext.trans HX.out HEw9.out) hbz⟩
                | true =>
                  go_wp2_with fail
                  refine (HF.out M false a4 HMS.out hst).mono ?_
                  rintro e w5 ⟨rfl, hb5⟩
                  rw [wild1, ← HEND.out]
                  have HEw5 : Hid (Ext a4 w5) := Lib.hid (Ext.trans hst hb5)
                  clear hb5 q0 q1 q2 q3 q4
                  obtain ⟨q0, q1, q2, q3, q4⟩ := HC.out w5 HEw5.out
                  go_wp2_with fail
                  refine (HG.out false w5 HEw5.out).mono ?_
                  rintro e w6 ⟨rfl, hb5⟩
                  rw [wild2 _ uns_nil]
                  have HEw6 : Hid (Ext a4 w6) := Lib.hid (Ext.trans HEw5.out hb5)
                  clear hb5 q0 q1 q2 q3 q4
                  obtain ⟨q0, q1, q2, q3, q4⟩ := HC.out w6 HEw6.out
                  go_wp2_with fail
                  refine (HG.out true w6 HEw6.out).mono ?_
                  rintro e w7 ⟨rfl, hb5⟩
                  rw [wild3 _ uns_nil, HMS2.out, HSI.out]
                  have HEw7 : Hid (Ext a4 w7) := Lib.hid (Ext.trans HEw6.out hb5)
                  clear hb5 q0 q1 q2 q3 q4
                  obtain ⟨q0, q1, q2, q3, q4⟩ := HC.out w7 HEw7.out
                  go_wp2_with fail
                  refine (simpleM_any M w7 HMS.out).mono ?_
                  rintro e w8 ⟨rfl, hb5⟩
                  rw [HSI.out]
                  have HEw8 : Hid (Ext a4 w8) := Lib.hid (Ext.trans HEw7.out hb5)
                  clear hb5 q0 q1 q2 q3 q4
                  obtain ⟨q0, q1, q2, q3, q4⟩ := HC.out w8 HEw8.out
                  go_wp2_with fail
                  refine (awake_any m w8 (HVW.out w8 HEw8.out).1).mono ?_
                  rintro e wz ⟨rfl, hbz⟩
                  go_wp2_with fail
                  go_ret
                  exact hR _ _ ⟨rfl, Ext.trans (Ext.trans HX.out HEw8.out) hbz⟩
            | true =>
              cases mst with
              | false =>
                cases ns with
                | false =>
                  go_wp2_with fail
                  refine (HF.out M false a4 HMS.out hst).mono ?_
                  rintro e w5 ⟨rfl, hb5⟩
                  rw [wild1, ← HEND.out]
                  have HEw5 : Hid (Ext a4 w5) := Lib.hid (Ext.trans hst hb5)
                  clear hb5 q0 q1 q2 q3 q4
                  obtain ⟨q0, q1, q2, q3, q4⟩ := HC.out w5 HEw5.out
                  go_wp2_with fail
                  refine (HG.out false w5 HEw5.out).mono ?_
                  rintro e w6 ⟨rfl, hb5⟩
                  rw [wild2 _ uns_nil]
                  have HEw6 : Hid (Ext a4 w6) := Lib.hid (Ext.trans HEw5.out hb5)
                  clear hb5 q0 q1 q2 q3 q4
                  obtain ⟨q0, q1, q2, q3, q4⟩ := HC.out w6 HEw6.out
                  go_wp2_with fail
                  refine (HG.out true w6 HEw6.out).mono ?_
                  rintro e w7 ⟨rfl, hb5⟩
                  rw [wild3 _ uns_nil, HMS2.out, HSI.out]
                  have HEw7 : Hid (Ext a4 w7) := Lib.hid (Ext.trans HEw6.out hb5)
                  clear hb5 q0 q1 q2 q3 q4
                  obtain ⟨q0, q1, q2, q3, q4⟩ := HC.out w7 HEw7.out
                  go_wp2_with fail
                  refine (simpleM_any M w7 HMS.out).mono ?_
                  rintro e w8 ⟨rfl, hb5⟩
                  rw [HSI.out]
                  have HEw8 : Hid (Ext a4 w8) := Lib.hid (Ext.trans HEw7.out hb5)
                  clear hb5 q0 q1 q2 q3 q4
                  obtain ⟨q0, q1, q2, q3, q4⟩ := HC.out w8 HEw8.out
                  go_wp2_with fail
                  refine (HF.out ⟨#[71, 69, 84]⟩ true w8 (by decide) HEw8.out).mono ?_
                  rintro e w9 ⟨rfl, hb5⟩
                  rw [wild4 _ _ HNS.out]
                  have HEw9 : Hid (Ext a4 w9) := Lib.hid (Ext.trans HEw8.out hb5)
                  clear hb5 q0 q1 q2 q3 q4
                  obtain ⟨q0, q1, q2, q3, q4⟩ := HC.out w9 HEw9.out
                  go_wp2_with fail
                  refine (awake_any m w9 (HVW.out w9 HEw9.out).1).mono ?_
                  rintro e wz ⟨rfl, hbz⟩
                  go_wp2_with fail
                  go_ret
                  exact hR _ _ ⟨rfl, Ext.trans (Ext.trans HX.out HEw9.out) hbz⟩
                | true =>
                  go_wp2_with fail
                  refine (HF.out M false a4 HMS.out hst).mono ?_
                  rintro e w5 ⟨rfl, hb5⟩
                  rw [wild1, ← HEND.out]
                  have HEw5 : Hid (Ext a4 w5) := Lib.hid (Ext.trans hst hb5)
                  clear hb5 q0 q1 q2 q3 q4
                  obtain ⟨q0, q1, q2, q3, q4⟩ := HC.out w5 HEw5.out
                  go_wp2_with fail
                  refine (HG.out false w5 HEw5.out).mono ?_
                  rintro e w6 ⟨rfl, hb5⟩
                  rw [wild2 _ uns_nil]
                  have HEw6 : Hid (Ext a4 w6) := Lib.hid (Ext.trans HEw5.out hb5)
                  clear hb5 q0 q1 q2 q3 q4
                  obtain ⟨q0, q1, q2, q3, q4⟩ := HC.out w6 HEw6.out
                  go_wp2_with fail
                  refine (HG.out true w6 HEw6.out).mono ?_
                  rintro e w7 ⟨rfl, hb5⟩
                  rw [wild3 _ uns_nil, HMS2.out, HSI.out]
                  have HEw7 : Hid (Ext a4 w7) := Lib.hid (Ext.trans HEw6.out hb5)
                  clear hb5 q0 q1 q2 q3 q4
                  obtain ⟨q0, q1, q2, q3, q4⟩ := HC.out w7 HEw7.out
                  go_wp2_with fail
                  refine (simpleM_any M w7 HMS.out).mono ?_
                  rintro e w8 ⟨rfl, hb5⟩
                  rw [HSI.out]
                  have HEw8 : Hid (Ext a4 w8) := Lib.hid (Ext.trans HEw7.out hb5)
                  clear hb5 q0 q1 q2 q3 q4
                  obtain ⟨q0, q1, q2, q3, q4⟩ := HC.out w8 HEw8.out
                  go_wp2_with fail
                  refine (awake_any m w8 (HVW.out w8 HEw8.out).1).mono ?_
                  rintro e wz ⟨rfl, hbz⟩
                  go_wp2_with fail
                  go_ret
                  exact hR _ _ ⟨rfl, Ext.trans (Ext.trans HX.out HEw8.out) hbz⟩
              | true =>
                cases ns with
                | false =>
                  go_wp2_with fail
                  refine (HF.out M false a4 HMS.out hst).mono ?_
                  rintro e w5 ⟨rfl, hb5⟩
                  rw [wild1, ← HEND.out]
                  have HEw5 : Hid (Ext a4 w5) := Lib.hid (Ext.trans hst hb5)
                  clear hb5 q0 q1 q2 q3 q4
                  obtain ⟨q0, q1, q2, q3, q4⟩ := HC.out w5 HEw5.out
                  go_wp2_with fail
                  refine (HG.out false w5 HEw5.out).mono ?_
                  rintro e w6 ⟨rfl, hb5⟩
                  rw [wild2 _ uns_nil]
                  have HEw6 : Hid (Ext a4 w6) := Lib.hid (Ext.trans HEw5.out hb5)
                  clear hb5 q0 q1 q2 q3 q4
                  obtain ⟨q0, q1, q2, q3, q4⟩ := HC.out w6 HEw6.out
                  go_wp2_with fail
                  refine (HG.out true w6 HEw6.out).mono ?_
                  rintro e w7 ⟨rfl, hb5⟩
                  rw [wild3 _ uns_nil, HMS2.out, HSI.out]
                  have HEw7 : Hid (Ext a4 w7) := Lib.hid (Ext.trans HEw6.out hb5)
                  clear hb5 q0 q1 q2 q3 q4
                  obtain ⟨q0, q1, q2, q3, q4⟩ := HC.out w7 HEw7.out
                  go_wp2_with fail
                  refine (simpleM_any M w7 HMS.out).mono ?_
                  rintro e w8 ⟨rfl, hb5⟩
                  rw [HSI.out]
                  have HEw8 : Hid (Ext a4 w8) := Lib.hid (Ext.trans HEw7.out hb5)
                  clear hb5 q0 q1 q2 q3 q4
                  obtain ⟨q0, q1, q2, q3, q4⟩ := HC.out w8 HEw8.out
                  go_wp2_with fail
                  refine (HF.out ⟨#[71, 69, 84]⟩ true w8 (by decide) HEw8.out).mono ?_
                  rintro e w9 ⟨rfl, hb5⟩
                  rw [wild4 _ _ HNS.out]
                  have HEw9 : Hid (Ext a4 w9) := Lib.hid (Ext.trans HEw8.out hb5)
                  clear hb5 q0 q1 q2 q3 q4
                  obtain ⟨q0, q1, q2, q3, q4⟩ := HC.out w9 HEw9.out
                  go_wp2_with fail
                  refine (awake_any m w9 (HVW.out w9 HEw9.out).1).mono ?_
                  rintro e wz ⟨rfl, hbz⟩
                  go_wp2_with fail
                  go_ret
                  exact hR _ _ ⟨rfl, Ext.trans (Ext.trans HX.out HEw9.out) hbz⟩
                | true =>
                  go_wp2_with fail
                  refine (HF.out M false a4 HMS.out hst).mono ?_
                  rintro e w5 ⟨rfl, hb5⟩
                  rw [wild1, ← HEND.out]
                  have HEw5 : Hid (Ext a4 w5) := Lib.hid (Ext.trans hst hb5)
                  clear hb5 q0 q1 q2 q3 q4
                  obtain ⟨q0, q1, q2, q3, q4⟩ := HC.out w5 HEw5.out
                  go_wp2_with fail
                  refine (HG.out false w5 HEw5.out).mono ?_
                  rintro e w6 ⟨rfl, hb5⟩
                  rw [wild2 _ uns_nil]
                  have HEw6 : Hid (Ext a4 w6) := Lib.hid (Ext.trans HEw5.out hb5)
                  clear hb5 q0 q1 q2 q3 q4
                  obtain ⟨q0, q1, q2, q3, q4⟩ := HC.out w6 HEw6.out
                  go_wp2_with fail
                  refine (HG.out true w6 HEw6.out).mono ?_
                  rintro e w7 ⟨rfl, hb5⟩
                  rw [wild3 _ uns_nil, HMS2.out, HSI.out]
                  have HEw7 : Hid (Ext a4 w7) := Lib.hid (Ext.trans HEw6.out hb5)
                  clear hb5 q0 q1 q2 q3 q4
                  obtain ⟨q0, q1, q2, q3, q4⟩ := HC.out w7 HEw7.out
                  go_wp2_with fail
                  refine (simpleM_any M w7 HMS.out).mono ?_
                  rintro e w8 ⟨rfl, hb5⟩
                  rw [HSI.out]
                  have HEw8 : Hid (Ext a4 w8) := Lib.hid (Ext.trans HEw7.out hb5)
                  clear hb5 q0 q1 q2 q3 q4
                  obtain ⟨q0, q1, q2, q3, q4⟩ := HC.out w8 HEw8.out
                  go_wp2_with fail
                  refine (awake_any m w8 (HVW.out w8 HEw8.out).1).mono ?_
                  rintro e wz ⟨rfl, hbz⟩
                  go_wp2_with fail
                  go_ret
                  exact hR _ _ ⟨rfl, Ext.trans (Ext.trans HX.out HEw8.out) hbz⟩
theorem wild_row {w : World} (M : ByteArray) (hM : M.size ≤ 140737488351232) (N : ByteArray) (hN : N.size ≤ 140737488351232) (m : Int) (hm : MaxLen m w) :
    Calls Tryd.prog 6 #[.string M, .string N] w fun e w' => e = .returned (.bool true) ∧ Below w.heap.size w w' := wild_walk M N m w hm hM hN
end Go.Proofs.YtalbadmefpdldaaDoor.Asc
