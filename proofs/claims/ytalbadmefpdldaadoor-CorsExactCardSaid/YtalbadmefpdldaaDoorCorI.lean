/-
  Contracts: what is said to an origin, of the program and of the document.
  Lengths within the rows' own reach.
-/
import Derived.Test.YtalbadmefpdldaaDoorCorH
namespace Go.Proofs.YtalbadmefpdldaaDoor.Asc
open Go Go.RowKit Go.Proofs.YtalbadmefpdldaaDoor.Pb

def findN (l : List Sh) (t : Tx) (cr : Bool) : Option Sh := (l.find? fun x => x.1 == t).or (if cr then none else l.find? fun x => x.1 == starT)
def shZ : Sh := ([], [], [], false)

theorem find1_any (O F : ByteArray) (mv hv : Value) (c : Bool) (fb : Nat) (w : World) (hc : w.cell? ⟨fb, 0, none⟩ = some (.string F)) :
    Calls Tryd.prog 41 #[.agg #[.string O, mv, hv, .bool c], .pointer (some ⟨fb, 0, none⟩)] w fun e w' => e = .returned (.bool (toL O == toL F)) ∧ Below w.heap.size w w' := by
  refine calls_gen fun R hR => ?_
  have hl := World.block_lt_of_cell? w ⟨fb, 0, none⟩ hc
  simp only at hl
  have hb := below_new w (.cells #[.string O, mv, hv, .bool c] 24)
  go_enter Tryd.func41, Tryd.ntmps41
  have HB := Lib.hid hb
  clear hb
  go_wp2_with fail
  go_ret
  exact hR _ _ ⟨ret_bool (by rw [toList_toL, toList_toL]), HB.out⟩

set_option maxHeartbeats 1000000 in
theorem indexshare_any (fid : FuncId) (hent : ∀ (xs : Array Value) (w : World), (callFunc fid xs).run Tryd.prog w = .ok (.enter fid xs) w) (caps : Array Value) (p : Sh → Bool) (l : List Sh) (v : Value) (F : Nat → Prop) (w : World) (hv : View shr w F l v) (hl : l.length ≤ 140737488351232)
    (hp : ∀ w1, Below w.heap.size w w1 → ∀ x mv hv, Calls Tryd.prog fid (#[.agg #[.string (ofL x.1), mv, hv, .bool x.2.2.2]] ++ caps) w1 fun e w2 => e = .returned (.bool (p x)) ∧ Below w1.heap.size w1 w2) :
    Calls Tryd.prog 40 #[v, .func (.func fid) #[] caps] w fun e w' =>
      ((∃ (k : Nat) (x : Sh), e = .returned (.int .i64 k) ∧ l[k]? = some x ∧ l.find? p = some x) ∨ (e = .returned (.int .i64 (-1)) ∧ l.find? p = none)) ∧ Below w.heap.size w w' := by
  refine calls_gen fun R hR => ?_
  obtain ⟨A, c, rfl, hcl, hget⟩ := shs_get hv
  have HG := Lib.hid hget; have HP := Lib.hid hp; have HENT := Lib.hid hent
  clear hget hv hp hent
  go_enter Tryd.func40, Tryd.ntmps40
  go_wp2_with fail
  go_loopw [4, 5, 8] (fun _ _ i wr => ∃ k : Nat, k ≤ l.length ∧ i = .int .i64 k ∧ Below w.heap.size w wr ∧ Hid (l.find? p = (l.drop k).find? p)) (fun _ _ i _ => l.length - (intOf i).toNat)
  case atStart => exact ⟨0, Nat.zero_le _, rfl, Below.refl _ _, Lib.hid (by rw [List.drop_zero])⟩
  case round =>
    obtain ⟨k, hk, rfl, hb, hall⟩ := hrel
    have HB := Lib.hid hb
    clear hb
    by_cases hlt : k < l.length
    · obtain ⟨g, off, rfl, hg, hx⟩ := HG.out k hlt
      obtain ⟨x, he⟩ : ∃ x, l[k]? = some x := ⟨_, List.getElem?_eq_getElem hlt⟩
      obtain ⟨mv, hv, c0, c1, c2, c3, -, -⟩ := hx x he
      have hbs := HB.out.size
      have d0 := (HB.out.cell (p := ⟨g, off + k * 4, none⟩) hg).trans c0
      have d1 := (HB.out.cell (p := ⟨g, off + k * 4 + 1, none⟩) hg).trans c1
      have d2 := (HB.out.cell (p := ⟨g, off + k * 4 + 2, none⟩) hg).trans c2
      have d3 := (HB.out.cell (p := ⟨g, off + k * 4 + 3, none⟩) hg).trans c3
      have hgr : g < wr.heap.size := by omega
      have HX := Lib.hid he
      have HFD : Hid (l.drop k = x :: l.drop (k + 1)) := Lib.hid (by
        obtain ⟨h1, h2⟩ := List.getElem?_eq_some_iff.1 he
        rw [List.drop_eq_getElem_cons h1, h2])
      clear hx he c0 c1 c2 c3
      go_wp2_with (with_reducible (first | refine stop_callv ?_))
      refine ⟨?_⟩
      have hc := HP.out wr HB.out x mv hv
      refine wp_callv (fid := fid) (caps := caps) (args' := #[.agg #[.string (ofL x.1), mv, hv, .bool x.2.2.2]] ++ caps) (Post := fun e w2 => e = .returned (.bool (p x)) ∧ Below wr.heap.size wr w2) HENT.out ?_ ?_ ?cc ?_
      case cc => exact hc
      · rfl
      · simp [Act.eval]
      rintro e w2 ⟨rfl, hb2⟩
      refine ⟨_, rfl, ?_⟩
      have HB2 := Lib.hid (HB.out.trans (hb2.mono hbs))
      clear hb2 d0 d1 d2 d3
      cases hp : p x with
      | true =>
        have HP1 := Lib.hid hp; clear hp
        go_wp2_with fail
        go_ret
        refine hR _ _ ⟨.inl ⟨k, x, rfl, HX.out, ?_⟩, HB2.out⟩
        rw [hall.out, HFD.out, List.find?_cons_of_pos HP1.out]
      | false =>
        have HP1 := Lib.hid hp; clear hp
        go_wp2_with fail
        go_roundw
        case rel => exact ⟨k + 1, by omega, by go_num, HB2.out, Lib.hid (by rw [hall.out, HFD.out, List.find?_cons_of_neg (by rw [HP1.out]; simp)])⟩
        case measure => simp [intOf]; omega
    · obtain rfl : k = l.length := by omega
      go_wp2_with fail
      go_ret
      exact hR _ _ ⟨.inr ⟨rfl, by rw [hall.out, List.drop_length]; rfl⟩, HB.out⟩

theorem clone_any (l : List Tx) (v : Value) (F : Nat → Prop) (w : World) (hv : View Rp.str w F l v) (hl : l.length ≤ 1000000) :
    Calls Tryd.prog 42 #[v] w fun e w' => ∃ r, e = .returned r ∧ View Rp.str w' (fun k => w.heap.size ≤ k) l r ∧ Below w.heap.size w w' := by
  refine calls_gen fun R hR => ?_
  have HV := Lib.hid hv
  obtain ⟨A, c, rfl, hcl, hA, hd⟩ := hv
  have hnil : ∀ w : World, (binOp .eql 22 (.slice A l.length c) (.slice none 0 0)).run Tryd.prog w = .ok (.bool A.isNone) w := fun w => Lib.run_eql_slice_nil w _ _ A l.length c 0 0 Tryd.underlying22
  have hn : A = none → l = [] := fun h => by
    rcases hd with h' | ⟨b, off, cells, e, _⟩
    · exact h'
    · rw [h] at e; cases e
  have HN := Lib.hid hn
  clear hd hA hn
  cases A with
  | none =>
    have HL := Lib.hid (HN.out rfl)
    go_enter Tryd.func42, Tryd.ntmps42
    go_wp2_with fail
    go_ret
    exact hR _ _ ⟨_, rfl, by rw [HL.out]; exact View.nil _ _ _, Below.refl _ _⟩
  | some a =>
    clear HN
    go_enter Tryd.func42, Tryd.ntmps42
    go_wp2_with (with_reducible (first | refine stop_append ?_))
    refine ⟨wp_clone Tryd.underlying22 infoS rfl (show 0 < 1 by decide) rfl rfl HV.out (by unfold maxLen; omega) (by omega) ?_⟩
    rintro v3 w3 ho3 hb3 ⟨g3, c3, rfl, hc3, hg3⟩
    have HO3 : Hid (View Rp.str w3 (fun k => w.heap.size ≤ k) l (.slice (some ⟨g3, 0, none⟩) l.length c3)) := Lib.hid (Own.view (ho3.flat fun k hk => by simp [Value.ownBlock] at hk; omega))
    have HB3 := Lib.hid hb3
    clear ho3 hb3
    go_wp2_with fail
    go_ret
    exact hR _ _ ⟨_, rfl, HO3.out, HB3.out⟩

set_option maxRecDepth 20000 in
set_option maxHeartbeats 8000000 in
theorem find_any (l : List Sh) (v : Value) (F : Nat → Prop) (S H : ByteArray) (P : Int) (cr : Bool) (w : World) (hv : View shr w F l v) (hl : l.length ≤ 2000) (hx : ∀ x ∈ l, shSm x) (hS : S.size ≤ 1000) (hH : H.size ≤ 1000) (h0 : 0 ≤ P) (h1 : P ≤ 65535) :
    Calls Tryd.prog 24 #[v, .agg #[.string S, .string H, .int .i64 P], .bool cr] w fun e w' => ∃ cs : Array Value, e = .returned (.tuple #[.agg cs, .bool (findN l (originN (toL S) (toL H) P) cr).isSome]) ∧ shr.rep w' (fun _ => True) ((findN l (originN (toL S) (toL H) P) cr).getD shZ) cs.toList ∧ Below w.heap.size w w' := by
  refine calls_gen fun R hR => ?_
  obtain ⟨A, c, rfl, hcl, hget⟩ := shs_get hv
  have HV := Lib.hid hv; have HG := Lib.hid hget; have HX := Lib.hid hx
  have HNS := Lib.hid (origin_nostar (toL S) (toL H) P)
  clear hget hv hx
  go_enter Tryd.func24, Tryd.ntmps24
  go_wp2_with fail
  have HX2b := Lib.hid hl
  have s0 : (w.alloc (.cells #[.string S, .string H, .int .i64 P] 39)).heap.size = w.heap.size + 1 := by simp
  obtain ⟨w1, hw1⟩ : ∃ w1, w.alloc (.cells #[.string S, .string H, .int .i64 P] 39) = w1 := ⟨_, rfl⟩
  have hb1 := below_new w (.cells #[.string S, .string H, .int .i64 P] 39)
  rw [hw1] at s0 hb1 ⊢
  obtain ⟨w1b, hw1b⟩ : ∃ w1b, w1.alloc (.cells #[.string ⟨#[]⟩, .slice none 0 0, .slice none 0 0, .bool false] 24) = w1b := ⟨_, rfl⟩
  have hb1b := below_new w1 (.cells #[.string ⟨#[]⟩, .slice none 0 0, .slice none 0 0, .bool false] 24)
  have gr := blk_new w1 (.cells #[.string ⟨#[]⟩, .slice none 0 0, .slice none 0 0, .bool false] 24)
  rw [hw1b] at hb1b gr ⊢
  rw [s0] at gr
  obtain ⟨rb, hrb⟩ : ∃ rb, w.heap.size + 1 = rb := ⟨_, rfl⟩
  rw [hrb] at gr ⊢
  have HRB := Lib.hid hrb
  have HB1b : Hid (Below w.heap.size w w1b) := Lib.hid (Ext.then hb1 hb1b (Nat.le_refl _))
  have HRL1 : Hid (rb < w1b.heap.size) := Lib.hid (blk_lt gr)
  have HGR1 := Lib.hid gr
  clear gr hb1 hb1b hw1 hw1b hrb s0
  refine (otext_any S H P w1b hS hH h0 h1).mono ?_
  rintro e w2 ⟨rfl, hb2⟩
  obtain ⟨T, hT⟩ : ∃ T, originN (toL S) (toL H) P = T := ⟨_, rfl⟩
  rw [hT] at HNS hR ⊢
  obtain ⟨TB, hTB⟩ : ∃ TB, ofL T = TB := ⟨_, rfl⟩
  rw [hTB]
  have HTT : Hid (toL TB = T) := Lib.hid (by rw [← hTB, toL_ofL])
  have HTS : Hid ((TB.toList == [42]) = false) := Lib.hid (by rw [toList_toL, HTT.out]; exact HNS.out)
  have HB2 : Hid (Below w.heap.size w w2) := Lib.hid (Ext.then HB1b.out hb2 (Nat.le_refl _))
  have HGR2 : Hid (w2.heap[rb]? = _) := Lib.hid ((hb2.block rb HRL1.out).trans HGR1.out)
  have g3 := blk_new w2 (.cells #[.string TB, .string ⟨#[42]⟩] 9)
  have hb3 := below_new w2 (.cells #[.string TB, .string ⟨#[42]⟩] 9)
  obtain ⟨w3, hw3⟩ : ∃ w3, w2.alloc (.cells #[.string TB, .string ⟨#[42]⟩] 9) = w3 := ⟨_, rfl⟩
  obtain ⟨tb, htb⟩ : ∃ tb, w2.heap.size = tb := ⟨_, rfl⟩
  rw [hw3, htb] at g3
  rw [hw3] at hb3
  have HW3 := Lib.hid hw3; have HTBn := Lib.hid htb
  have HB3 : Hid (Below w.heap.size w w3) := Lib.hid (Ext.then HB2.out hb3 (Nat.le_refl _))
  have HGR : Hid (w3.heap[rb]? = _) := Lib.hid ((hb3.block rb (blk_lt HGR2.out)).trans HGR2.out)
  have HRL : Hid (rb < w3.heap.size) := Lib.hid (blk_lt HGR.out)
  have c0 := blk_cell g3 0
  have c1 := blk_cell g3 1
  simp at c0 c1
  have HT0 := Lib.hid c0; have HT1 := Lib.hid c1
  have HTL : Hid (tb < w3.heap.size) := Lib.hid (blk_lt g3)
  clear hb2 hT hTB g3 hb3 hw3 htb c0 c1 HB1b HRL1 HGR1 HGR2
  go_wp2_with fail
  rw [HW3.out, HTBn.out]
  clear HW3 HTBn
  go_loopw [9, 10, 16] (fun _ _ i wr => ∃ k : Nat, k ≤ 2 ∧ i = .int .i64 k ∧ Hid (Ext w3 wr) ∧ Hid ((0 < k → l.find? (fun x => x.1 == T) = none) ∧ (1 < k → cr = true ∨ l.find? (fun x => x.1 == starT) = none))) (fun _ _ i _ => 2 - (intOf i).toNat)
  case atStart => exact ⟨0, by decide, rfl, Lib.hid (Ext.refl _), Lib.hid ⟨fun h => by omega, fun h => by omega⟩⟩
  case round =>
    obtain ⟨k, hk, rfl, hE, HNF⟩ := hrel
    obtain rfl | rfl | rfl : k = 0 ∨ k = 1 ∨ k = 2 := by omega
    · -- the origin's own
      have ct := ext_cell hE.out HT0.out
      have htb := Nat.lt_of_lt_of_le HTL.out hE.out.size
      have hTs := HTS.out
      go_wp2_with fail
      have hbn := below_new wr (.cells #[.string TB] 9)
      have gn := blk_new wr (.cells #[.string TB] 9)
      refine (indexshare_any 41 Tryd.call41 #[.pointer (some ⟨wr.heap.size, 0, none⟩)] (fun x => x.1 == T) l _ F _ (((HV.out.below HB3.out).below hE.out).below hbn) (by omega) (fun w1 hw1 x mv hv => ?_)).mono ?_
      · have hc1 : w1.cell? ⟨wr.heap.size, 0, none⟩ = some (.string TB) := (hw1.cell (p := ⟨wr.heap.size, 0, none⟩) (by simp)).trans (by rw [blk_cell gn]; rfl)
        have := find1_any (ofL x.1) TB mv hv x.2.2.2 wr.heap.size w1 hc1
        rw [toL_ofL] at this
        rw [HTT.out] at this
        exact this
      rintro e w4 ⟨hres, hb4⟩
      have HE4 : Hid (Ext w3 w4) := Lib.hid (Ext.trans hE.out (Ext.trans hbn hb4))
      clear hbn gn hb4 ct htb
      rcases hres with ⟨j, x, rfl, hj, hf⟩ | ⟨rfl, hf⟩
      · have HF : Hid (findN l T cr = some x) := Lib.hid (by unfold findN; rw [hf]; rfl)
        have HJ := Lib.hid hj
        have hjl : j < l.length := (List.getElem?_eq_some_iff.1 hj).1
        have hsm := HX.out x (List.mem_of_getElem? hj)
        obtain ⟨g, off, rfl, hg, hxx⟩ := HG.out j hjl
        obtain ⟨mv, hv, c0, c1, c2, c3, hmv, hhv⟩ := hxx x hj
        obtain ⟨O, ms, hs, ec⟩ := x
        simp only at c0 c1 c2 c3 hmv hhv hsm
        have hml : ms.length ≤ 2000 := by have := total_len ms; have := hsm.2.1; simp only at this; omega
        have hhl : hs.length ≤ 2000 := by have := total_len hs; have := hsm.2.2; simp only at this; omega
        have HMV : Hid (View Rp.str w4 F ms mv) := Lib.hid ((hmv.below HB3.out).below HE4.out)
        have HHV : Hid (View Rp.str w4 F hs hv) := Lib.hid ((hhv.below HB3.out).below HE4.out)
        have HBW4 : Hid (Below w.heap.size w w4) := Lib.hid (Ext.then HB3.out HE4.out (Nat.le_refl _))
        have d0 := (HBW4.out.cell (p := ⟨g, off + j * 4, none⟩) hg).trans c0
        have d1 := (HBW4.out.cell (p := ⟨g, off + j * 4 + 1, none⟩) hg).trans c1
        have d2 := (HBW4.out.cell (p := ⟨g, off + j * 4 + 2, none⟩) hg).trans c2
        have d3 := (HBW4.out.cell (p := ⟨g, off + j * 4 + 3, none⟩) hg).trans c3
        have hgr : g < w4.heap.size := Nat.lt_of_lt_of_le hg HBW4.out.size
        have hq0 : (0 : Int) ≤ (j : Int) := by omega
        have hq1 : (j : Int) < (l.length : Int) := by omega
        have hq2 : decide ((j : Int) ≥ 0) = true := decide_eq_true (by omega)
        clear hj hf hsm hxx c0 c1 c2 c3
        obtain ⟨MA, mc, rfl, -, -, -⟩ := hmv
        obtain ⟨HA, hc, rfl, -, -, -⟩ := hhv
        obtain ⟨OB, hOB⟩ : ∃ OB, ofL O = OB := ⟨_, rfl⟩
        rw [hOB] at d0
        have HOB := Lib.hid hOB
        clear hOB
        have g5 := blk_new w4 (.cells #[.string OB, .slice MA ms.length mc, .slice HA hs.length hc, .bool ec] 24)
        have hb5 := below_new w4 (.cells #[.string OB, .slice MA ms.length mc, .slice HA hs.length hc, .bool ec] 24)
        obtain ⟨w5, hw5⟩ : ∃ w5, w4.alloc (.cells #[.string OB, .slice MA ms.length mc, .slice HA hs.length hc, .bool ec] 24) = w5 := ⟨_, rfl⟩
        obtain ⟨xb, hxb⟩ : ∃ xb, w4.heap.size = xb := ⟨_, rfl⟩
        rw [hw5, hxb] at g5
        rw [hw5] at hb5
        have HXB := Lib.hid hxb; have HW5 := Lib.hid hw5; have HG5 := Lib.hid g5; have HE45 : Hid (Ext w4 w5) := Lib.hid hb5
        have e1 := blk_cell g5 1
        have e2 := blk_cell g5 2
        simp at e1 e2
        have HS5 : Hid (xb < w5.heap.size) := Lib.hid (blk_lt g5)
        clear g5 hb5 hw5 hxb
        go_upto_region 8 with fail
        rw [HW5.out, HXB.out]
        refine wp_region_any (by kernel_rfl) ?_
        refine region_ext [(fun vv _ => vv = .pointer (some ⟨xb, 1, none⟩)), (fun vv _ => vv = .slice MA ms.length mc), (fun v w => ∃ A c, v = .slice A ms.length c ∧ View Rp.str w (fun k => xb < k) ms v), (fun vv _ => vv = .pointer (some ⟨xb, 2, none⟩)), (fun vv _ => vv = .slice HA hs.length hc), (fun v w => ∃ A c, v = .slice A hs.length c ∧ View Rp.str w (fun k => xb < k) hs v), (fun vv _ => vv = .pointer (some ⟨xb, 1, none⟩))]
          [[], [(0, 34)], [(1, 35)], [], [(3, 37)], [(4, 38)], [], [], [], []]
          [none, none, none, none, none, none, none, none, none, none]
          [some 34, some 35, some 36, some 37, some 38, some 39, some 40] 7 (by kernel_rfl) (by kernel_rfl) (by kernel_rfl) rfl (by kernel_rfl) ?_ ?_ ?_
        · exact ⟨fun _ _ _ _ h => h, fun _ _ _ _ h => h, (fun _ _ _ h ⟨A, c, e, k⟩ => ⟨A, c, e, k.below h⟩), fun _ _ _ _ h => h, fun _ _ _ _ h => h, (fun _ _ _ h ⟨A, c, e, k⟩ => ⟨A, c, e, k.below h⟩), fun _ _ _ _ h => h, trivial⟩
        · refine ⟨?_, ?_, ?_, ?_, ?_, ?_, ?_, trivial⟩
          · intro ρ wx hE hx hd
            replace hE := Ext.undrew hE
            have e11 : ρ (.tmp 11) = .pointer (some ⟨xb, 0, none⟩) := hx (.tmp 11) (by simp)
            exact gives_val (G := fun vv _ => vv = .pointer (some ⟨xb, 1, none⟩)) (v := .pointer (some ⟨xb, 1, none⟩)) (by simp [execOp, e11, go_sem]) rfl
          · intro ρ wx hE hx hd
            replace hE := Ext.undrew hE
            have e34 : ρ (.tmp 34) = .pointer (some ⟨xb, 1, none⟩) := hd.1
            have hcl := ext_cell hE e1
            exact gives_val (G := fun vv _ => vv = .slice MA ms.length mc) (v := .slice MA ms.length mc) (by simp [execOp, e34, hcl, go_sem]) rfl
          · intro ρ wx hE hx hd
            replace hE := Ext.undrew hE
            have e35 : ρ (.tmp 35) = .slice MA ms.length mc := hd.1
            have hf : ∀ f, ρ (.func f) = .func (.func f) #[] #[] := fun f => (hx (.func f) (by simp)).trans rfl
            refine gives_call (G := fun v w => ∃ A c, v = .slice A ms.length c ∧ View Rp.str w (fun k => xb < k) ms v) (by simp [execOp, e35, hf, go_sem] <;> first | exact ⟨rfl, rfl⟩ | exact rfl) ((clone_any ms _ F wx ((HMV.out.below HE45.out).below hE) (by omega)).mono fun e w' h => ?_); obtain ⟨r, rfl, hr, hb⟩ := h; have hr2 := hr.mono (F' := fun k => xb < k) (fun k hk => by have := HS5.out; have := hE.size; omega); obtain ⟨A, c, e, _⟩ := hr; exact ⟨_, rfl, hb, A, c, e, hr2⟩
          · intro ρ wx hE hx hd
            replace hE := Ext.undrew hE
            have e11 : ρ (.tmp 11) = .pointer (some ⟨xb, 0, none⟩) := hx (.tmp 11) (by simp)
            exact gives_val (G := fun vv _ => vv = .pointer (some ⟨xb, 2, none⟩)) (v := .pointer (some ⟨xb, 2, none⟩)) (by simp [execOp, e11, go_sem]) rfl
          · intro ρ wx hE hx hd
            replace hE := Ext.undrew hE
            have e37 : ρ (.tmp 37) = .pointer (some ⟨xb, 2, none⟩) := hd.1
            have hcl := ext_cell hE e2
            exact gives_val (G := fun vv _ => vv = .slice HA hs.length hc) (v := .slice HA hs.length hc) (by simp [execOp, e37, hcl, go_sem]) rfl
          · intro ρ wx hE hx hd
            replace hE := Ext.undrew hE
            have e38 : ρ (.tmp 38) = .slice HA hs.length hc := hd.1
            have hf : ∀ f, ρ (.func f) = .func (.func f) #[] #[] := fun f => (hx (.func f) (by simp)).trans rfl
            refine gives_call (G := fun v w => ∃ A c, v = .slice A hs.length c ∧ View Rp.str w (fun k => xb < k) hs v) (by simp [execOp, e38, hf, go_sem] <;> first | exact ⟨rfl, rfl⟩ | exact rfl) ((clone_any hs _ F wx ((HHV.out.below HE45.out).below hE) (by omega)).mono fun e w' h => ?_); obtain ⟨r, rfl, hr, hb⟩ := h; have hr2 := hr.mono (F' := fun k => xb < k) (fun k hk => by have := HS5.out; have := hE.size; omega); obtain ⟨A, c, e, _⟩ := hr; exact ⟨_, rfl, hb, A, c, e, hr2⟩
          · intro ρ wx hE hx hd
            replace hE := Ext.undrew hE
            have e11 : ρ (.tmp 11) = .pointer (some ⟨xb, 0, none⟩) := hx (.tmp 11) (by simp)
            exact gives_val (G := fun vv _ => vv = .pointer (some ⟨xb, 1, none⟩)) (v := .pointer (some ⟨xb, 1, none⟩)) (by simp [execOp, e11, go_sem]) rfl
        intro wx hE
        refine fun v34 (e34 : v34 = .pointer (some ⟨xb, 1, none⟩)) => ?_
        refine fun v35 (e35 : v35 = .slice MA ms.length mc) => ?_
        refine fun v36 e36 => ?_
        refine fun v37 (e37 : v37 = .pointer (some ⟨xb, 2, none⟩)) => ?_
        refine fun v38 (e38 : v38 = .slice HA hs.length hc) => ?_
        refine fun v39 e39 => ?_
        refine fun v40 (e40 : v40 = .pointer (some ⟨xb, 1, none⟩)) => ?_
        subst e34 e35 e37 e38 e40
        refine rest_nil ?_
        simp only [List.drop_succ_cons, List.drop_zero, Act.put, List.setIfInBounds_toArray, List.set_cons_zero, List.set_cons_succ]
        obtain ⟨A6, c6, rfl, hv6⟩ := e36
        obtain ⟨A9, c9, rfl, hv9⟩ := e39
        have HV6 := Lib.hid hv6; have HV9 := Lib.hid hv9
        have HEX := Lib.hid hE
        have gx : wx.heap[xb]? = some (.cells #[.string OB, .slice MA ms.length mc, .slice HA hs.length hc, .bool ec] 24 (0, 0)) := (hE.block xb HS5.out).trans HG5.out
        have HERX : Hid (Ext w3 wx) := Lib.hid (Ext.trans (Ext.trans HE4.out HE45.out) hE)
        have gr : wx.heap[rb]? = _ := (HERX.out.block rb HRL.out).trans HGR.out
        have x0 := blk_cell gx 0
        have fx0 := blk_free gx 0
        have r0 := blk_cell gr 0
        have fr0 := blk_free gr 0
        have x1 := blk_cell gx 1
        have fx1 := blk_free gx 1
        have r1 := blk_cell gr 1
        have fr1 := blk_free gr 1
        have x2 := blk_cell gx 2
        have fx2 := blk_free gx 2
        have r2 := blk_cell gr 2
        have fr2 := blk_free gr 2
        have x3 := blk_cell gx 3
        have fx3 := blk_free gx 3
        have r3 := blk_cell gr 3
        have fr3 := blk_free gr 3
        simp at x0 x1 x2 x3 r0 r1 r2 r3
        have hxs := blk_lt gx
        have hrs := blk_lt gr
        have hne1 : xb ≠ rb := by have := HXB.out; have := HRL.out; have := HE4.out.size; omega
        have hne2 : rb ≠ xb := fun h => hne1 h.symm
        have HGX := Lib.hid gx; have HGR2 := Lib.hid gr
        clear e1 e2 hv6 hv9 hE gx gr d0 d1 d2 d3 hq0 hq1 hq2 hg hgr hjl
        go_wp2_with fail
        have kz1 : Keep (fun k => k = xb ∨ k = rb) wx wx := Keep.refl _ _
        have kz := (((((kz1.set (p := ⟨xb, 1, none⟩) (.inl rfl) (.slice A6 ms.length c6)).set (p := ⟨xb, 2, none⟩) (.inl rfl) (.slice A9 hs.length c9)).set (p := ⟨rb, 0, none⟩) (.inr rfl) (.string OB)).set (p := ⟨rb, 1, none⟩) (.inr rfl) (.slice A6 ms.length c6)).set (p := ⟨rb, 2, none⟩) (.inr rfl) (.slice A9 hs.length c9)).set (p := ⟨rb, 3, none⟩) (.inr rfl) (.bool ec)
        have gz := blk_set (blk_set (blk_set (blk_set (blk_other (a := ⟨xb, 2, none⟩) (v := .slice A9 hs.length c9) (blk_other (a := ⟨xb, 1, none⟩) (v := .slice A6 ms.length c6) HGR2.out hne2) hne2) 0 (.string OB)) 1 (.slice A6 ms.length c6)) 2 (.slice A9 hs.length c9)) 3 (.bool ec)
        simp at gz
        obtain ⟨wz, hwz⟩ : ∃ wz, ((((((wx.setCell ⟨xb, 1, none⟩ (.slice A6 ms.length c6)).setCell ⟨xb, 2, none⟩ (.slice A9 hs.length c9)).setCell ⟨rb, 0, none⟩ (.string OB)).setCell ⟨rb, 1, none⟩ (.slice A6 ms.length c6)).setCell ⟨rb, 2, none⟩ (.slice A9 hs.length c9)).setCell ⟨rb, 3, none⟩ (.bool ec)) = wz := ⟨_, rfl⟩
        rw [hwz] at kz gz ⊢
        clear hwz kz1 x0 x1 x2 x3 fx0 fx1 fx2 fx3 r0 r1 r2 r3 fr0 fr1 fr2 fr3
        have z0 := blk_cell gz 0
        have z1 := blk_cell gz 1
        have z2 := blk_cell gz 2
        have z3 := blk_cell gz 3
        simp at z0 z1 z2 z3
        have hlt2 : rb < xb := by have := HXB.out; have := HRL.out; have := HE4.out.size; omega
        refine bodyPost_ret (v := .tuple #[.agg #[.string OB, .slice A6 ms.length c6, .slice A9 hs.length c9, .bool ec], .bool true]) (by simp [results, Tryd.results24, go_sem, z0, z1, z2, z3]) rfl ?_
        refine hR _ _ ⟨_, by rw [HF.out]; rfl, ?_, ?_⟩
        · rw [HF.out]
          refine ⟨[.string OB], [.slice A6 ms.length c6, .slice A9 hs.length c9, .bool ec], rfl, (by show [Value.string OB] = [Value.string (ofL O)]; rw [HOB.out]), [.slice A6 ms.length c6], [.slice A9 hs.length c9, .bool ec], rfl, ⟨_, rfl, ?_⟩, [.slice A9 hs.length c9], [.bool ec], rfl, ⟨_, rfl, ?_⟩, rfl⟩
          · exact (HV6.out.keep kz (fun k (hk : xb < k) e => by rcases e with e | e <;> omega)).mono fun _ _ => trivial
          · exact (HV9.out.keep kz (fun k (hk : xb < k) e => by rcases e with e | e <;> omega)).mono fun _ _ => trivial
        · have hbx : Below w.heap.size w wx := Ext.then HB3.out HERX.out (Nat.le_refl _)
          exact hbx.trans (kz.below hbx.size fun i hi e => by have := HRB.out; rcases e with e | e <;> omega)
      · have HF := Lib.hid hf
        clear hf
        go_wp2_with fail
        go_roundw
        case rel => exact ⟨1, by decide, by go_num, HE4, Lib.hid ⟨fun _ => HF.out, fun h => by omega⟩⟩
        case measure => simp [intOf]
    · -- everybody's
      cases hcr : cr with
      | true =>
        have ct := ext_cell hE.out HT1.out
        have htb := Nat.lt_of_lt_of_le HTL.out hE.out.size
        go_wp2_with fail
        go_roundw
        case rel => exact ⟨2, by decide, by go_num, Lib.hid (Ext.trans hE.out (below_new wr _)), Lib.hid ⟨fun _ => HNF.out.1 (by decide), fun _ => by simp⟩⟩
        case measure => simp [intOf]
      | false =>
        subst hcr
        have ct := ext_cell hE.out HT1.out
        have htb := Nat.lt_of_lt_of_le HTL.out hE.out.size
        have hTs := HTS.out
        go_wp2_with fail
        have hbn := below_new wr (.cells #[.string ⟨#[42]⟩] 9)
        have gn := blk_new wr (.cells #[.string ⟨#[42]⟩] 9)
        refine (indexshare_any 41 Tryd.call41 #[.pointer (some ⟨wr.heap.size, 0, none⟩)] (fun x => x.1 == starT) l _ F _ (((HV.out.below HB3.out).below hE.out).below hbn) (by omega) (fun w1 hw1 x mv hv => ?_)).mono ?_
        · have hc1 : w1.cell? ⟨wr.heap.size, 0, none⟩ = some (.string ⟨#[42]⟩) := (hw1.cell (p := ⟨wr.heap.size, 0, none⟩) (by simp)).trans (by rw [blk_cell gn]; rfl)
          have := find1_any (ofL x.1) ⟨#[42]⟩ mv hv x.2.2.2 wr.heap.size w1 hc1
          rw [toL_ofL] at this
          rw [show toL ⟨#[42]⟩ = starT from rfl] at this
          exact this
        rintro e w4 ⟨hres, hb4⟩
        have HE4 : Hid (Ext w3 w4) := Lib.hid (Ext.trans hE.out (Ext.trans hbn hb4))
        clear hbn gn hb4 ct htb
        rcases hres with ⟨j, x, rfl, hj, hf⟩ | ⟨rfl, hf⟩
        · have HF : Hid (findN l T false = some x) := Lib.hid (by unfold findN; rw [HNF.out.1 (by decide), hf]; rfl)
          have HJ := Lib.hid hj
          have hjl : j < l.length := (List.getElem?_eq_some_iff.1 hj).1
          have hsm := HX.out x (List.mem_of_getElem? hj)
          obtain ⟨g, off, rfl, hg, hxx⟩ := HG.out j hjl
          obtain ⟨mv, hv, c0, c1, c2, c3, hmv, hhv⟩ := hxx x hj
          obtain ⟨O, ms, hs, ec⟩ := x
          simp only at c0 c1 c2 c3 hmv hhv hsm
          have hml : ms.length ≤ 2000 := by have := total_len ms; have := hsm.2.1; simp only at this; omega
          have hhl : hs.length ≤ 2000 := by have := total_len hs; have := hsm.2.2; simp only at this; omega
          have HMV : Hid (View Rp.str w4 F ms mv) := Lib.hid ((hmv.below HB3.out).below HE4.out)
          have HHV : Hid (View Rp.str w4 F hs hv) := Lib.hid ((hhv.below HB3.out).below HE4.out)
          have HBW4 : Hid (Below w.heap.size w w4) := Lib.hid (Ext.then HB3.out HE4.out (Nat.le_refl _))
          have d0 := (HBW4.out.cell (p := ⟨g, off + j * 4, none⟩) hg).trans c0
          have d1 := (HBW4.out.cell (p := ⟨g, off + j * 4 + 1, none⟩) hg).trans c1
          have d2 := (HBW4.out.cell (p := ⟨g, off + j * 4 + 2, none⟩) hg).trans c2
          have d3 := (HBW4.out.cell (p := ⟨g, off + j * 4 + 3, none⟩) hg).trans c3
          have hgr : g < w4.heap.size := Nat.lt_of_lt_of_le hg HBW4.out.size
          have hq0 : (0 : Int) ≤ (j : Int) := by omega
          have hq1 : (j : Int) < (l.length : Int) := by omega
          have hq2 : decide ((j : Int) ≥ 0) = true := decide_eq_true (by omega)
          clear hj hf hsm hxx c0 c1 c2 c3
          obtain ⟨MA, mc, rfl, -, -, -⟩ := hmv
          obtain ⟨HA, hc, rfl, -, -, -⟩ := hhv
          obtain ⟨OB, hOB⟩ : ∃ OB, ofL O = OB := ⟨_, rfl⟩
          rw [hOB] at d0
          have HOB := Lib.hid hOB
          clear hOB
          have g5 := blk_new w4 (.cells #[.string OB, .slice MA ms.length mc, .slice HA hs.length hc, .bool ec] 24)
          have hb5 := below_new w4 (.cells #[.string OB, .slice MA ms.length mc, .slice HA hs.length hc, .bool ec] 24)
          obtain ⟨w5, hw5⟩ : ∃ w5, w4.alloc (.cells #[.string OB, .slice MA ms.length mc, .slice HA hs.length hc, .bool ec] 24) = w5 := ⟨_, rfl⟩
          obtain ⟨xb, hxb⟩ : ∃ xb, w4.heap.size = xb := ⟨_, rfl⟩
          rw [hw5, hxb] at g5
          rw [hw5] at hb5
          have HXB := Lib.hid hxb; have HW5 := Lib.hid hw5; have HG5 := Lib.hid g5; have HE45 : Hid (Ext w4 w5) := Lib.hid hb5
          have e1 := blk_cell g5 1
          have e2 := blk_cell g5 2
          simp at e1 e2
          have HS5 : Hid (xb < w5.heap.size) := Lib.hid (blk_lt g5)
          clear g5 hb5 hw5 hxb
          go_upto_region 8 with fail
          rw [HW5.out, HXB.out]
          refine wp_region_any (by kernel_rfl) ?_
          refine region_ext [(fun vv _ => vv = .pointer (some ⟨xb, 1, none⟩)), (fun vv _ => vv = .slice MA ms.length mc), (fun v w => ∃ A c, v = .slice A ms.length c ∧ View Rp.str w (fun k => xb < k) ms v), (fun vv _ => vv = .pointer (some ⟨xb, 2, none⟩)), (fun vv _ => vv = .slice HA hs.length hc), (fun v w => ∃ A c, v = .slice A hs.length c ∧ View Rp.str w (fun k => xb < k) hs v), (fun vv _ => vv = .pointer (some ⟨xb, 1, none⟩))]
            [[], [(0, 34)], [(1, 35)], [], [(3, 37)], [(4, 38)], [], [], [], []]
            [none, none, none, none, none, none, none, none, none, none]
            [some 34, some 35, some 36, some 37, some 38, some 39, some 40] 7 (by kernel_rfl) (by kernel_rfl) (by kernel_rfl) rfl (by kernel_rfl) ?_ ?_ ?_
          · exact ⟨fun _ _ _ _ h => h, fun _ _ _ _ h => h, (fun _ _ _ h ⟨A, c, e, k⟩ => ⟨A, c, e, k.below h⟩), fun _ _ _ _ h => h, fun _ _ _ _ h => h, (fun _ _ _ h ⟨A, c, e, k⟩ => ⟨A, c, e, k.below h⟩), fun _ _ _ _ h => h, trivial⟩
          · refine ⟨?_, ?_, ?_, ?_, ?_, ?_, ?_, trivial⟩
            · intro ρ wx hE hx hd
              replace hE := Ext.undrew hE
              have e11 : ρ (.tmp 11) = .pointer (some ⟨xb, 0, none⟩) := hx (.tmp 11) (by simp)
              exact gives_val (G := fun vv _ => vv = .pointer (some ⟨xb, 1, none⟩)) (v := .pointer (some ⟨xb, 1, none⟩)) (by simp [execOp, e11, go_sem]) rfl
            · intro ρ wx hE hx hd
              replace hE := Ext.undrew hE
              have e34 : ρ (.tmp 34) = .pointer (some ⟨xb, 1, none⟩) := hd.1
              have hcl := ext_cell hE e1
              exact gives_val (G := fun vv _ => vv = .slice MA ms.length mc) (v := .slice MA ms.length mc) (by simp [execOp, e34, hcl, go_sem]) rfl
            · intro ρ wx hE hx hd
              replace hE := Ext.undrew hE
              have e35 : ρ (.tmp 35) = .slice MA ms.length mc := hd.1
              have hf : ∀ f, ρ (.func f) = .func (.func f) #[] #[] := fun f => (hx (.func f) (by simp)).trans rfl
              refine gives_call (G := fun v w => ∃ A c, v = .slice A ms.length c ∧ View Rp.str w (fun k => xb < k) ms v) (by simp [execOp, e35, hf, go_sem] <;> first | exact ⟨rfl, rfl⟩ | exact rfl) ((clone_any ms _ F wx ((HMV.out.below HE45.out).below hE) (by omega)).mono fun e w' h => ?_); obtain ⟨r, rfl, hr, hb⟩ := h; have hr2 := hr.mono (F' := fun k => xb < k) (fun k hk => by have := HS5.out; have := hE.size; omega); obtain ⟨A, c, e, _⟩ := hr; exact ⟨_, rfl, hb, A, c, e, hr2⟩
            · intro ρ wx hE hx hd
              replace hE := Ext.undrew hE
              have e11 : ρ (.tmp 11) = .pointer (some ⟨xb, 0, none⟩) := hx (.tmp 11) (by simp)
              exact gives_val (G := fun vv _ => vv = .pointer (some ⟨xb, 2, none⟩)) (v := .pointer (some ⟨xb, 2, none⟩)) (by simp [execOp, e11, go_sem]) rfl
            · intro ρ wx hE hx hd
              replace hE := Ext.undrew hE
              have e37 : ρ (.tmp 37) = .pointer (some ⟨xb, 2, none⟩) := hd.1
              have hcl := ext_cell hE e2
              exact gives_val (G := fun vv _ => vv = .slice HA hs.length hc) (v := .slice HA hs.length hc) (by simp [execOp, e37, hcl, go_sem]) rfl
            · intro ρ wx hE hx hd
              replace hE := Ext.undrew hE
              have e38 : ρ (.tmp 38) = .slice HA hs.length hc := hd.1
              have hf : ∀ f, ρ (.func f) = .func (.func f) #[] #[] := fun f => (hx (.func f) (by simp)).trans rfl
              refine gives_call (G := fun v w => ∃ A c, v = .slice A hs.length c ∧ View Rp.str w (fun k => xb < k) hs v) (by simp [execOp, e38, hf, go_sem] <;> first | exact ⟨rfl, rfl⟩ | exact rfl) ((clone_any hs _ F wx ((HHV.out.below HE45.out).below hE) (by omega)).mono fun e w' h => ?_); obtain ⟨r, rfl, hr, hb⟩ := h; have hr2 := hr.mono (F' := fun k => xb < k) (fun k hk => by have := HS5.out; have := hE.size; omega); obtain ⟨A, c, e, _⟩ := hr; exact ⟨_, rfl, hb, A, c, e, hr2⟩
            · intro ρ wx hE hx hd
              replace hE := Ext.undrew hE
              have e11 : ρ (.tmp 11) = .pointer (some ⟨xb, 0, none⟩) := hx (.tmp 11) (by simp)
              exact gives_val (G := fun vv _ => vv = .pointer (some ⟨xb, 1, none⟩)) (v := .pointer (some ⟨xb, 1, none⟩)) (by simp [execOp, e11, go_sem]) rfl
          intro wx hE
          refine fun v34 (e34 : v34 = .pointer (some ⟨xb, 1, none⟩)) => ?_
          refine fun v35 (e35 : v35 = .slice MA ms.length mc) => ?_
          refine fun v36 e36 => ?_
          refine fun v37 (e37 : v37 = .pointer (some ⟨xb, 2, none⟩)) => ?_
          refine fun v38 (e38 : v38 = .slice HA hs.length hc) => ?_
          refine fun v39 e39 => ?_
          refine fun v40 (e40 : v40 = .pointer (some ⟨xb, 1, none⟩)) => ?_
          subst e34 e35 e37 e38 e40
          refine rest_nil ?_
          simp only [List.drop_succ_cons, List.drop_zero, Act.put, List.setIfInBounds_toArray, List.set_cons_zero, List.set_cons_succ]
          obtain ⟨A6, c6, rfl, hv6⟩ := e36
          obtain ⟨A9, c9, rfl, hv9⟩ := e39
          have HV6 := Lib.hid hv6; have HV9 := Lib.hid hv9
          have HEX := Lib.hid hE
          have gx : wx.heap[xb]? = some (.cells #[.string OB, .slice MA ms.length mc, .slice HA hs.length hc, .bool ec] 24 (0, 0)) := (hE.block xb HS5.out).trans HG5.out
          have HERX : Hid (Ext w3 wx) := Lib.hid (Ext.trans (Ext.trans HE4.out HE45.out) hE)
          have gr : wx.heap[rb]? = _ := (HERX.out.block rb HRL.out).trans HGR.out
          have x0 := blk_cell gx 0
          have fx0 := blk_free gx 0
          have r0 := blk_cell gr 0
          have fr0 := blk_free gr 0
          have x1 := blk_cell gx 1
          have fx1 := blk_free gx 1
          have r1 := blk_cell gr 1
          have fr1 := blk_free gr 1
          have x2 := blk_cell gx 2
          have fx2 := blk_free gx 2
          have r2 := blk_cell gr 2
          have fr2 := blk_free gr 2
          have x3 := blk_cell gx 3
          have fx3 := blk_free gx 3
          have r3 := blk_cell gr 3
          have fr3 := blk_free gr 3
          simp at x0 x1 x2 x3 r0 r1 r2 r3
          have hxs := blk_lt gx
          have hrs := blk_lt gr
          have hne1 : xb ≠ rb := by have := HXB.out; have := HRL.out; have := HE4.out.size; omega
          have hne2 : rb ≠ xb := fun h => hne1 h.symm
          have HGX := Lib.hid gx; have HGR2 := Lib.hid gr
          clear e1 e2 hv6 hv9 hE gx gr d0 d1 d2 d3 hq0 hq1 hq2 hg hgr hjl
          go_wp2_with fail
          have kz1 : Keep (fun k => k = xb ∨ k = rb) wx wx := Keep.refl _ _
          have kz := (((((kz1.set (p := ⟨xb, 1, none⟩) (.inl rfl) (.slice A6 ms.length c6)).set (p := ⟨xb, 2, none⟩) (.inl rfl) (.slice A9 hs.length c9)).set (p := ⟨rb, 0, none⟩) (.inr rfl) (.string OB)).set (p := ⟨rb, 1, none⟩) (.inr rfl) (.slice A6 ms.length c6)).set (p := ⟨rb, 2, none⟩) (.inr rfl) (.slice A9 hs.length c9)).set (p := ⟨rb, 3, none⟩) (.inr rfl) (.bool ec)
          have gz := blk_set (blk_set (blk_set (blk_set (blk_other (a := ⟨xb, 2, none⟩) (v := .slice A9 hs.length c9) (blk_other (a := ⟨xb, 1, none⟩) (v := .slice A6 ms.length c6) HGR2.out hne2) hne2) 0 (.string OB)) 1 (.slice A6 ms.length c6)) 2 (.slice A9 hs.length c9)) 3 (.bool ec)
          simp at gz
          obtain ⟨wz, hwz⟩ : ∃ wz, ((((((wx.setCell ⟨xb, 1, none⟩ (.slice A6 ms.length c6)).setCell ⟨xb, 2, none⟩ (.slice A9 hs.length c9)).setCell ⟨rb, 0, none⟩ (.string OB)).setCell ⟨rb, 1, none⟩ (.slice A6 ms.length c6)).setCell ⟨rb, 2, none⟩ (.slice A9 hs.length c9)).setCell ⟨rb, 3, none⟩ (.bool ec)) = wz := ⟨_, rfl⟩
          rw [hwz] at kz gz ⊢
          clear hwz kz1 x0 x1 x2 x3 fx0 fx1 fx2 fx3 r0 r1 r2 r3 fr0 fr1 fr2 fr3
          have z0 := blk_cell gz 0
          have z1 := blk_cell gz 1
          have z2 := blk_cell gz 2
          have z3 := blk_cell gz 3
          simp at z0 z1 z2 z3
          have hlt2 : rb < xb := by have := HXB.out; have := HRL.out; have := HE4.out.size; omega
          refine bodyPost_ret (v := .tuple #[.agg #[.string OB, .slice A6 ms.length c6, .slice A9 hs.length c9, .bool ec], .bool true]) (by simp [results, Tryd.results24, go_sem, z0, z1, z2, z3]) rfl ?_
          refine hR _ _ ⟨_, by rw [HF.out]; rfl, ?_, ?_⟩
          · rw [HF.out]
            refine ⟨[.string OB], [.slice A6 ms.length c6, .slice A9 hs.length c9, .bool ec], rfl, (by show [Value.string OB] = [Value.string (ofL O)]; rw [HOB.out]), [.slice A6 ms.length c6], [.slice A9 hs.length c9, .bool ec], rfl, ⟨_, rfl, ?_⟩, [.slice A9 hs.length c9], [.bool ec], rfl, ⟨_, rfl, ?_⟩, rfl⟩
            · exact (HV6.out.keep kz (fun k (hk : xb < k) e => by rcases e with e | e <;> omega)).mono fun _ _ => trivial
            · exact (HV9.out.keep kz (fun k (hk : xb < k) e => by rcases e with e | e <;> omega)).mono fun _ _ => trivial
          · have hbx : Below w.heap.size w wx := Ext.then HB3.out HERX.out (Nat.le_refl _)
            exact hbx.trans (kz.below hbx.size fun i hi e => by have := HRB.out; rcases e with e | e <;> omega)
        · have HF := Lib.hid hf
          clear hf
          go_wp2_with fail
          go_roundw
          case rel => exact ⟨2, by decide, by go_num, HE4, Lib.hid ⟨fun _ => HNF.out.1 (by decide), fun _ => .inr HF.out⟩⟩
          case measure => simp [intOf]
    · have HF : Hid (findN l T cr = none) := Lib.hid (by
        unfold findN
        rw [HNF.out.1 (by decide)]
        rcases HNF.out.2 (by decide) with h | h
        · rw [h]; rfl
        · rw [h]; cases cr <;> rfl)
      have gr : wr.heap[rb]? = _ := (hE.out.block rb HRL.out).trans HGR.out
      have r0 := blk_cell gr 0
      have fr0 := blk_free gr 0
      have r1 := blk_cell gr 1
      have fr1 := blk_free gr 1
      have r2 := blk_cell gr 2
      have fr2 := blk_free gr 2
      have r3 := blk_cell gr 3
      have fr3 := blk_free gr 3
      simp at r0 r1 r2 r3
      have hrs := blk_lt gr
      have HGR2 := Lib.hid gr
      clear gr
      go_wp2_with fail
      have kz1 : Keep (fun k => k = rb) wr wr := Keep.refl _ _
      have kz := (((kz1.set (p := ⟨rb, 0, none⟩) rfl (.string ⟨#[]⟩)).set (p := ⟨rb, 1, none⟩) rfl (.slice none 0 0)).set (p := ⟨rb, 2, none⟩) rfl (.slice none 0 0)).set (p := ⟨rb, 3, none⟩) rfl (.bool false)
      have gz := blk_set (blk_set (blk_set (blk_set HGR2.out 0 (.string ⟨#[]⟩)) 1 (.slice none 0 0)) 2 (.slice none 0 0)) 3 (.bool false)
      simp at gz
      obtain ⟨wz, hwz⟩ : ∃ wz, ((((wr.setCell ⟨rb, 0, none⟩ (.string ⟨#[]⟩)).setCell ⟨rb, 1, none⟩ (.slice none 0 0)).setCell ⟨rb, 2, none⟩ (.slice none 0 0)).setCell ⟨rb, 3, none⟩ (.bool false)) = wz := ⟨_, rfl⟩
      rw [hwz] at kz gz ⊢
      clear hwz kz1 r0 r1 r2 r3 fr0 fr1 fr2 fr3
      have z0 := blk_cell gz 0
      have z1 := blk_cell gz 1
      have z2 := blk_cell gz 2
      have z3 := blk_cell gz 3
      simp at z0 z1 z2 z3
      refine bodyPost_ret (v := .tuple #[.agg #[.string ⟨#[]⟩, .slice none 0 0, .slice none 0 0, .bool false], .bool false]) (by simp [results, Tryd.results24, go_sem, z0, z1, z2, z3]) rfl ?_
      refine hR _ _ ⟨_, by rw [HF.out]; rfl, ?_, ?_⟩
      · rw [HF.out]
        exact rep_share ⟨#[]⟩ [] [] _ _ false (View.nil _ _ _) (View.nil _ _ _)
      · have hbx : Below w.heap.size w wr := Ext.then HB3.out hE.out (Nat.le_refl _)
        exact hbx.trans (kz.below hbx.size fun i hi e => by have := HRB.out; omega)
end Go.Proofs.YtalbadmefpdldaaDoor.Asc
