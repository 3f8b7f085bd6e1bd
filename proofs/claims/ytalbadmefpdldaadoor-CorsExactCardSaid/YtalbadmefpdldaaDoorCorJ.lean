/-
  Contracts: the document's Share; two shares held against each other; whether an origin is looked at.
  Lengths within the rows' own reach.
-/
import Derived.Test.YtalbadmefpdldaaDoorCorI
namespace Go.Proofs.YtalbadmefpdldaaDoor.Asc
open Go Go.RowKit Go.Proofs.YtalbadmefpdldaaDoor.Pb

set_option maxRecDepth 20000 in
set_option maxHeartbeats 8000000 in
theorem share_any (l : List Sh) (v : Value) (F : Nat → Prop) (S H : ByteArray) (P : Int) (cr : Bool) (w : World) (hv : View shr w F l v) (hl : l.length ≤ 2000) (hS : S.size ≤ 1000) (hH : H.size ≤ 1000) (h0 : 0 ≤ P) (h1 : P ≤ 65535) :
    Calls Tryd.prog 25 #[v, .agg #[.string S, .string H, .int .i64 P], .bool cr] w fun e w' => ∃ cs : Array Value, e = .returned (.tuple #[.agg cs, .bool (findN l (originN (toL S) (toL H) P) cr).isSome]) ∧ shr.rep w' (fun _ => True) ((findN l (originN (toL S) (toL H) P) cr).getD shZ) cs.toList ∧ Below w.heap.size w w' := by
  refine calls_gen fun R hR => ?_
  obtain ⟨A, c, rfl, hcl, hget⟩ := shs_get hv
  have HG := Lib.hid hget
  clear hget hv
  go_enter Tryd.func25, Tryd.ntmps25
  go_wp2_with fail
  have s0 : (w.alloc (.cells #[.string S, .string H, .int .i64 P] 39)).heap.size = w.heap.size + 1 := by simp
  obtain ⟨w1, hw1⟩ : ∃ w1, w.alloc (.cells #[.string S, .string H, .int .i64 P] 39) = w1 := ⟨_, rfl⟩
  have hb1 := below_new w (.cells #[.string S, .string H, .int .i64 P] 39)
  rw [hw1] at s0 hb1 ⊢
  obtain ⟨w1b, hw1b⟩ : ∃ w1b, w1.alloc (.cells #[.string ⟨#[]⟩, .slice none 0 0, .slice none 0 0, .bool false] 24) = w1b := ⟨_, rfl⟩
  have hb1b := below_new w1 (.cells #[.string ⟨#[]⟩, .slice none 0 0, .slice none 0 0, .bool false] 24)
  have gr := blk_new w1 (.cells #[.string ⟨#[]⟩, .slice none 0 0, .slice none 0 0, .bool false] 24)
  rw [hw1b] at hb1b gr ⊢
  rw [s0] at gr
  obtain ⟨rb, hrb⟩ : ∃ rb, w.heap.size + 1 = rb := ⟨_, rfl⟩
  rw [hrb] at gr ⊢
  have HRB := Lib.hid hrb
  have HB1b : Hid (Below w.heap.size w w1b) := Lib.hid (Ext.then hb1 hb1b (Nat.le_refl _))
  have HRL1 : Hid (rb < w1b.heap.size) := Lib.hid (blk_lt gr)
  have HGR1 := Lib.hid gr
  clear gr hb1 hb1b hw1 hw1b hrb s0
  refine (rotext_any S H P w1b hS hH h0 h1).mono ?_
  rintro e w3 ⟨rfl, hb2⟩
  obtain ⟨T, hT⟩ : ∃ T, originN (toL S) (toL H) P = T := ⟨_, rfl⟩
  rw [hT] at hR ⊢
  obtain ⟨TB, hTB⟩ : ∃ TB, ofL T = TB := ⟨_, rfl⟩
  rw [hTB]
  have HTT : Hid (toL TB = T) := Lib.hid (by rw [← hTB, toL_ofL])
  have HB3 : Hid (Below w.heap.size w w3) := Lib.hid (Ext.then HB1b.out hb2 (Nat.le_refl _))
  have HGR : Hid (w3.heap[rb]? = _) := Lib.hid ((hb2.block rb HRL1.out).trans HGR1.out)
  clear hb2 hT hTB HB1b HRL1 HGR1
  have gr := HGR.out
  have r0 := blk_cell gr 0
  have fr0 := blk_free gr 0
  have r1 := blk_cell gr 1
  have fr1 := blk_free gr 1
  have r2 := blk_cell gr 2
  have fr2 := blk_free gr 2
  have r3 := blk_cell gr 3
  have fr3 := blk_free gr 3
  simp at r0 r1 r2 r3
  have hrs := blk_lt gr
  have hws := HB3.out.size
  clear gr
  -- what is found ends so
  have fin : ∀ (j : Nat) (x : Sh), l[j]? = some x → findN l T cr = some x → ∃ g off MA mc HA hc, A = some ⟨g, off, none⟩ ∧ g < w3.heap.size ∧ g ≠ rb ∧ w3.cell? ⟨g, off + j * 4, none⟩ = some (.string (ofL x.1)) ∧ w3.cell? ⟨g, off + j * 4 + 1, none⟩ = some (.slice MA x.2.1.length mc) ∧ w3.cell? ⟨g, off + j * 4 + 2, none⟩ = some (.slice HA x.2.2.1.length hc) ∧ w3.cell? ⟨g, off + j * 4 + 3, none⟩ = some (.bool x.2.2.2) ∧
      (∀ wz, wz = (((w3.setCell ⟨rb, 0, none⟩ (.string (ofL x.1))).setCell ⟨rb, 1, none⟩ (.slice MA x.2.1.length mc)).setCell ⟨rb, 2, none⟩ (.slice HA x.2.2.1.length hc)).setCell ⟨rb, 3, none⟩ (.bool x.2.2.2) → Pb.Fin (R (.returned (.tuple #[.agg #[.string (ofL x.1), .slice MA x.2.1.length mc, .slice HA x.2.2.1.length hc, .bool x.2.2.2], .bool true])) wz) ∧
        wz.cell? ⟨rb, 0, none⟩ = some (.string (ofL x.1)) ∧ wz.cell? ⟨rb, 1, none⟩ = some (.slice MA x.2.1.length mc) ∧ wz.cell? ⟨rb, 2, none⟩ = some (.slice HA x.2.2.1.length hc) ∧ wz.cell? ⟨rb, 3, none⟩ = some (.bool x.2.2.2)) := by
    intro j x hj hf
    have hjl : j < l.length := (List.getElem?_eq_some_iff.1 hj).1
    obtain ⟨g, off, rfl, hg, hxx⟩ := HG.out j hjl
    obtain ⟨mv, hv, c0, c1, c2, c3, hmv, hhv⟩ := hxx x hj
    have hmv' := hmv
    have hhv' := hhv
    obtain ⟨MA, mc, rfl, -, -, -⟩ := hmv'
    obtain ⟨HA, hc, rfl, -, -, -⟩ := hhv'
    refine ⟨g, off, MA, mc, HA, hc, rfl, Nat.lt_of_lt_of_le hg hws, by have := HRB.out; omega, (HB3.out.cell (p := ⟨g, off + j * 4, none⟩) hg).trans c0, (HB3.out.cell (p := ⟨g, off + j * 4 + 1, none⟩) hg).trans c1, (HB3.out.cell (p := ⟨g, off + j * 4 + 2, none⟩) hg).trans c2, (HB3.out.cell (p := ⟨g, off + j * 4 + 3, none⟩) hg).trans c3, ?_⟩
    intro wz hwz
    have kz1 : Keep (fun k => k = rb) w3 w3 := Keep.refl _ _
    have kz := (((kz1.set (p := ⟨rb, 0, none⟩) rfl (.string (ofL x.1))).set (p := ⟨rb, 1, none⟩) rfl (.slice MA x.2.1.length mc)).set (p := ⟨rb, 2, none⟩) rfl (.slice HA x.2.2.1.length hc)).set (p := ⟨rb, 3, none⟩) rfl (.bool x.2.2.2)
    have gz := blk_set (blk_set (blk_set (blk_set HGR.out 0 (.string (ofL x.1))) 1 (.slice MA x.2.1.length mc)) 2 (.slice HA x.2.2.1.length hc)) 3 (.bool x.2.2.2)
    simp at gz
    rw [← hwz] at kz gz
    have z0 := blk_cell gz 0
    have z1 := blk_cell gz 1
    have z2 := blk_cell gz 2
    have z3 := blk_cell gz 3
    simp at z0 z1 z2 z3
    have hbz : Below w.heap.size w wz := HB3.out.trans (kz.below hws fun i hi e => by have := HRB.out; omega)
    refine ⟨hR _ _ ⟨_, by rw [hf]; rfl, ?_, hbz⟩, z0, z1, z2, z3⟩
    rw [hf]
    have := rep_share (w := wz) (F := fun _ => True) (ofL x.1) x.2.1 x.2.2.1 _ _ x.2.2.2 ((hmv.below hbz).mono fun _ _ => trivial) ((hhv.below hbz).mono fun _ _ => trivial)
    rw [toL_ofL] at this
    exact this
  have FIN := Lib.hid fin
  clear fin
  go_wp2_with fail
  go_loop [9] (fun i => ∃ k : Nat, k ≤ l.length ∧ i = .int .i64 k ∧ Hid (l.find? (fun x => x.1 == T) = (l.drop k).find? (fun x => x.1 == T))) (fun i => l.length - (intOf i).toNat)
  case atStart => exact ⟨0, Nat.zero_le _, rfl, Lib.hid (by rw [List.drop_zero])⟩
  case round =>
    obtain ⟨k, hk, rfl, hall⟩ := hrel
    by_cases hlt : k < l.length
    · obtain ⟨x, he⟩ : ∃ x, l[k]? = some x := ⟨_, List.getElem?_eq_getElem hlt⟩
      have HFD : Hid (l.drop k = x :: l.drop (k + 1)) := Lib.hid (by
        obtain ⟨h1, h2⟩ := List.getElem?_eq_some_iff.1 he
        rw [List.drop_eq_getElem_cons h1, h2])
      have hq0 : (0 : Int) ≤ (k : Int) := by omega
      have hq1 : (k : Int) < (l.length : Int) := by omega
      cases hp : (x.1 == T) with
      | true =>
        have HF : findN l T cr = some x := by unfold findN; rw [hall.out, HFD.out, List.find?_cons_of_pos (by simpa using hp)]; rfl
        obtain ⟨g, off, MA, mc, HA, hc, rfl, hg, hne, d0, d1, d2, d3, hfin⟩ := FIN.out k x he HF
        have e0 : ((ofL x.1).toList == TB.toList) = true := by rw [toList_ofL, toList_toL, HTT.out]; exact hp
        have hne' : rb ≠ g := fun h => hne h.symm
        have HFI := Lib.hid hfin
        clear hfin HF he hp FIN
        go_wp2_with fail
        obtain ⟨f1, z0, z1, z2, z3⟩ := HFI.out _ rfl
        exact bodyPost_ret (v := .tuple #[.agg #[.string (ofL x.1), .slice MA x.2.1.length mc, .slice HA x.2.2.1.length hc, .bool x.2.2.2], .bool true]) (by simp only [results, Tryd.results25]; simp [go_sem, z0, z1, z2, z3, hrs, r0, r1, r2, r3]) rfl f1
      | false =>
        obtain ⟨g, off, rfl, hg, hxx⟩ := HG.out k hlt
        obtain ⟨mv, hv, c0, _, _, _, _, _⟩ := hxx x he
        have d0 := (HB3.out.cell (p := ⟨g, off + k * 4, none⟩) hg).trans c0
        have hgr : g < w3.heap.size := Nat.lt_of_lt_of_le hg hws
        have e0 : ((ofL x.1).toList == TB.toList) = false := by rw [toList_ofL, toList_toL, HTT.out]; exact hp
        have HP := Lib.hid hp
        clear hxx c0 he hp
        go_wp2_with fail
        go_round
        case rel => exact ⟨k + 1, by omega, by go_num, Lib.hid (by rw [hall.out, HFD.out, List.find?_cons_of_neg (by rw [HP.out]; simp)])⟩
        case measure => simp [intOf]; omega
    · obtain rfl : k = l.length := by omega
      have HN1 : Hid (l.find? (fun x => x.1 == T) = none) := Lib.hid (by rw [hall.out, List.drop_length]; rfl)
      clear hall hlt hk
      go_wp2_with fail
      go_loop [10] (fun i => ∃ k : Nat, k ≤ l.length ∧ i = .int .i64 k ∧ Hid (l.find? (fun x => x.1 == starT) = (l.drop k).find? (fun x => x.1 == starT))) (fun i => l.length - (intOf i).toNat)
      case atStart => exact ⟨0, Nat.zero_le _, rfl, Lib.hid (by rw [List.drop_zero])⟩
      case round =>
        obtain ⟨k, hk, rfl, hall⟩ := hrel
        by_cases hgo : k < l.length ∧ cr = false
        · obtain ⟨hlt, rfl⟩ := hgo
          obtain ⟨x, he⟩ : ∃ x, l[k]? = some x := ⟨_, List.getElem?_eq_getElem hlt⟩
          have HFD : Hid (l.drop k = x :: l.drop (k + 1)) := Lib.hid (by
            obtain ⟨h1, h2⟩ := List.getElem?_eq_some_iff.1 he
            rw [List.drop_eq_getElem_cons h1, h2])
          have hq0 : (0 : Int) ≤ (k : Int) := by omega
          have hq1 : (k : Int) < (l.length : Int) := by omega
          cases hp : (x.1 == starT) with
          | true =>
            have HF : findN l T false = some x := by unfold findN; rw [HN1.out, hall.out, HFD.out, List.find?_cons_of_pos (by simpa using hp)]; rfl
            obtain ⟨g, off, MA, mc, HA, hc, rfl, hg, hne, d0, d1, d2, d3, hfin⟩ := FIN.out k x he HF
            have e0 : ((ofL x.1).toList == [42]) = true := by rw [toList_ofL]; exact hp
            have hne' : rb ≠ g := fun h => hne h.symm
            have HFI := Lib.hid hfin
            clear hfin HF he hp FIN
            go_wp2_with fail
            obtain ⟨f1, z0, z1, z2, z3⟩ := HFI.out _ rfl
            exact bodyPost_ret (v := .tuple #[.agg #[.string (ofL x.1), .slice MA x.2.1.length mc, .slice HA x.2.2.1.length hc, .bool x.2.2.2], .bool true]) (by simp only [results, Tryd.results25]; simp [go_sem, z0, z1, z2, z3, hrs, r0, r1, r2, r3]) rfl f1
          | false =>
            obtain ⟨g, off, rfl, hg, hxx⟩ := HG.out k hlt
            obtain ⟨mv, hv, c0, _, _, _, _, _⟩ := hxx x he
            have d0 := (HB3.out.cell (p := ⟨g, off + k * 4, none⟩) hg).trans c0
            have hgr : g < w3.heap.size := Nat.lt_of_lt_of_le hg hws
            have e0 : ((ofL x.1).toList == [42]) = false := by rw [toList_ofL]; exact hp
            have HP := Lib.hid hp
            clear hxx c0 he hp
            go_wp2_with fail
            go_round
            case rel => exact ⟨k + 1, by omega, by go_num, Lib.hid (by rw [hall.out, HFD.out, List.find?_cons_of_neg (by rw [HP.out]; simp)])⟩
            case measure => simp [intOf]; omega
        · have HF : Hid (findN l T cr = none) := Lib.hid (by
            unfold findN
            rw [HN1.out]
            cases cr with
            | true => rfl
            | false =>
              have hkl : k = l.length := by have : ¬ k < l.length := fun h => hgo ⟨h, rfl⟩; omega
              rw [hall.out, hkl, List.drop_length]; rfl)
          have hex : k < l.length → cr = true := fun h => by cases cr with | true => rfl | false => exact absurd ⟨h, rfl⟩ hgo
          have gz := blk_set (blk_set (blk_set (blk_set HGR.out 0 (.string ⟨#[]⟩)) 1 (.slice none 0 0)) 2 (.slice none 0 0)) 3 (.bool false)
          simp at gz
          have kz1 : Keep (fun k => k = rb) w3 w3 := Keep.refl _ _
          have kz := (((kz1.set (p := ⟨rb, 0, none⟩) rfl (.string ⟨#[]⟩)).set (p := ⟨rb, 1, none⟩) rfl (.slice none 0 0)).set (p := ⟨rb, 2, none⟩) rfl (.slice none 0 0)).set (p := ⟨rb, 3, none⟩) rfl (.bool false)
          have HGZ := Lib.hid gz; have HKZ := Lib.hid kz
          clear gz kz kz1 hgo hall FIN
          by_cases hlt : k < l.length
          · obtain rfl := hex hlt
            clear hex
            go_wp2_with fail
            obtain ⟨wz, hwz⟩ : ∃ wz, ((((w3.setCell ⟨rb, 0, none⟩ (.string ⟨#[]⟩)).setCell ⟨rb, 1, none⟩ (.slice none 0 0)).setCell ⟨rb, 2, none⟩ (.slice none 0 0)).setCell ⟨rb, 3, none⟩ (.bool false)) = wz := ⟨_, rfl⟩
            rw [hwz] at HGZ HKZ ⊢
            have z0 := blk_cell HGZ.out 0
            have z1 := blk_cell HGZ.out 1
            have z2 := blk_cell HGZ.out 2
            have z3 := blk_cell HGZ.out 3
            simp at z0 z1 z2 z3
            clear hwz r0 r1 r2 r3 fr0 fr1 fr2 fr3
            refine bodyPost_ret (v := .tuple #[.agg #[.string ⟨#[]⟩, .slice none 0 0, .slice none 0 0, .bool false], .bool false]) (by simp [results, Tryd.results25, go_sem, z0, z1, z2, z3]) rfl ?_
            refine hR _ _ ⟨_, by rw [HF.out]; rfl, ?_, HB3.out.trans (HKZ.out.below hws fun i hi e => by have := HRB.out; omega)⟩
            rw [HF.out]
            exact rep_share ⟨#[]⟩ [] [] _ _ false (View.nil _ _ _) (View.nil _ _ _)
          · clear hex
            go_wp2_with fail
            obtain ⟨wz, hwz⟩ : ∃ wz, ((((w3.setCell ⟨rb, 0, none⟩ (.string ⟨#[]⟩)).setCell ⟨rb, 1, none⟩ (.slice none 0 0)).setCell ⟨rb, 2, none⟩ (.slice none 0 0)).setCell ⟨rb, 3, none⟩ (.bool false)) = wz := ⟨_, rfl⟩
            rw [hwz] at HGZ HKZ ⊢
            have z0 := blk_cell HGZ.out 0
            have z1 := blk_cell HGZ.out 1
            have z2 := blk_cell HGZ.out 2
            have z3 := blk_cell HGZ.out 3
            simp at z0 z1 z2 z3
            clear hwz r0 r1 r2 r3 fr0 fr1 fr2 fr3
            refine bodyPost_ret (v := .tuple #[.agg #[.string ⟨#[]⟩, .slice none 0 0, .slice none 0 0, .bool false], .bool false]) (by simp [results, Tryd.results25, go_sem, z0, z1, z2, z3]) rfl ?_
            refine hR _ _ ⟨_, by rw [HF.out]; rfl, ?_, HB3.out.trans (HKZ.out.below hws fun i hi e => by have := HRB.out; omega)⟩
            rw [HF.out]
            exact rep_share ⟨#[]⟩ [] [] _ _ false (View.nil _ _ _) (View.nil _ _ _)
end Go.Proofs.YtalbadmefpdldaaDoor.Asc
