/-
  Contracts: two rows of Items are held against each other; a parser that is none is fed.
  No condition.
-/
import Derived.Test.YtaihjnicondifaaDoorHtX
namespace Go.Proofs.YtaihjnicondifaaDoor.Asc
open Go Go.RowKit Go.Proofs.YtaihjnicondifaaDoor.Pb

theorem flds_slice {w : World} {F : Nat → Prop} {fs : List Fd} {v : Value} (h : View fld w F fs v) : ∃ A c, v = .slice A fs.length c := by
  obtain ⟨A, c, h, _⟩ := h; exact ⟨A, c, h⟩

set_option maxHeartbeats 2000000 in
set_option maxRecDepth 20000 in
/-- same of two rows that are alike -/
theorem sames_any (its : List It) (hl : its.length ≤ 1000000) (hfl : ∀ x ∈ its, x.flds.length ≤ 1000000) (va vb : Value) (F1 F2 : Nat → Prop) (w : World) (ha : View itm w F1 its va) (hb : View itm w F2 its vb) :
    Calls Tryd.prog 23 #[va, vb] w fun e w' => e = .returned (.bool true) ∧ Below w.heap.size w w' := by
  refine calls_gen fun R hR => ?_
  have HA := Lib.hid ha; have HB := Lib.hid hb; have HFL := Lib.hid hfl
  obtain ⟨A, ca, rfl, _, _⟩ := view_items ha
  obtain ⟨B, cb, rfl, _, _⟩ := view_items hb
  clear ha hb hfl
  have g6 : ((its.length : Int) != its.length) = false := bne_self_eq_false ..
  go_enter Tryd.func23, Tryd.ntmps23
  go_upto_region 3 with fail
  clear g6
  go_wp2_with fail
  go_loopw [5] (fun i wr => ∃ k : Nat, k ≤ its.length ∧ i = .int .i64 k ∧ Below w.heap.size w wr) (fun i _ => its.length - (intOf i).toNat)
  case atStart => exact ⟨0, Nat.zero_le _, rfl, Below.refl _ _⟩
  case round =>
    obtain ⟨k, hk, rfl, hb⟩ := hrel
    have HBR := Lib.hid hb
    clear hb
    by_cases hlt : k < its.length
    · obtain ⟨x, hx⟩ : ∃ x, its[k]? = some x := ⟨_, List.getElem?_eq_getElem hlt⟩
      have hxf := HFL.out x (List.mem_of_getElem? hx)
      obtain ⟨_, _, e1, _, hg1⟩ := view_items (HA.out.below HBR.out)
      obtain ⟨_, _, e2, _, hg2⟩ := view_items (HB.out.below HBR.out)
      cases e1
      cases e2
      obtain ⟨b1, o1, e1, _, hb1, hc1⟩ := hg1 k hlt
      obtain ⟨b2, o2, e2, _, hb2, hc2⟩ := hg2 k hlt
      subst e1 e2
      obtain ⟨f1, i1⟩ := hc1 x hx
      obtain ⟨f2, i2⟩ := hc2 x hx
      have HI1 := Lib.hid i1; have HI2 := Lib.hid i2
      obtain ⟨A1, n1, rfl⟩ := flds_slice i1.flds
      obtain ⟨A2, n2, rfl⟩ := flds_slice i2.flds
      have hq0 : (0 : Int) ≤ (k : Int) := by omega
      have hq1 : (k : Int) < (its.length : Int) := by omega
      have hkt : ((k : Int)).toNat = k := by omega
      clear hg1 hg2 hc1 hc2 hx i1 i2
      go_upto_region 6 with fail
      refine wp_region_any (by kernel_rfl) ?_
      refine region_ext [(fun vv _ => vv = .slice (some ⟨b1, o1, none⟩) its.length ca), (fun vv _ => vv = .int .i64 k), (fun vv _ => vv = .pointer (some ⟨b1, o1 + k * 6, none⟩)), (fun vv _ => vv = agg6 x.st (ofL x.meth) (ofL x.path) A1 x.flds.length n1 (ofL x.body) x.close), (fun vv _ => vv = agg6 x.st (ofL x.meth) (ofL x.path) A1 x.flds.length n1 (ofL x.body) x.close), (fun vv _ => vv = .slice (some ⟨b2, o2, none⟩) its.length cb), (fun vv _ => vv = .int .i64 k), (fun vv _ => vv = .pointer (some ⟨b2, o2 + k * 6, none⟩)), (fun vv _ => vv = agg6 x.st (ofL x.meth) (ofL x.path) A2 x.flds.length n2 (ofL x.body) x.close), (fun vv _ => vv = .bool true), (fun vv _ => vv = .bool false)]
        [[], [], [(0, 17), (1, 18)], [(2, 19)], [(3, 20)], [], [], [(5, 22), (6, 23)], [(7, 24)], [(4, 21), (8, 25)], [(9, 26)]]
        [none, none, none, none, none, none, none, none, none, none, none]
        [some 17, some 18, some 19, some 20, some 21, some 22, some 23, some 24, some 25, some 26, some 27] 11 (by kernel_rfl) (by kernel_rfl) (by kernel_rfl) rfl (by kernel_rfl) ?_ ?_ ?_
      · exact ⟨fun _ _ _ _ h => h, fun _ _ _ _ h => h, fun _ _ _ _ h => h, fun _ _ _ _ h => h, fun _ _ _ _ h => h, fun _ _ _ _ h => h, fun _ _ _ _ h => h, fun _ _ _ _ h => h, fun _ _ _ _ h => h, fun _ _ _ _ h => h, fun _ _ _ _ h => h, trivial⟩
      · refine ⟨fun ρ wx _ hx _ => gives_move (hx (.tmp 0) (by simp)), fun ρ wx _ hx _ => gives_move (hx (.tmp 5) (by simp)), ?_, ?_, ?_, fun ρ wx _ hx _ => gives_move (hx (.tmp 1) (by simp)), fun ρ wx _ hx _ => gives_move (hx (.tmp 5) (by simp)), ?_, ?_, ?_, ?_, trivial⟩
        · intro ρ wx hE hx hd
          replace hE := Ext.undrew hE
          have e17 : ρ (.tmp 17) = .slice (some ⟨b1, o1, none⟩) its.length ca := hd.1
          have e18 : ρ (.tmp 18) = .int .i64 k := hd.2.1
          exact gives_val (G := fun vv _ => vv = .pointer (some ⟨b1, o1 + k * 6, none⟩)) (v := .pointer (some ⟨b1, o1 + k * 6, none⟩)) (by simp [execOp, e17, e18, hq0, hq1, hkt, hlt, add_off, go_sem]) rfl
        · intro ρ wx hE hx hd
          replace hE := Ext.undrew hE
          have e19 : ρ (.tmp 19) = .pointer (some ⟨b1, o1 + k * 6, none⟩) := hd.1
          have I := HI1.out.below hb1 hE; have z0 := I.c0; have z1 := I.c1; have z2 := I.c2; have z3 := I.c3; have z4 := I.c4; have z5 := I.c5; exact gives_val (G := fun vv _ => vv = agg6 x.st (ofL x.meth) (ofL x.path) A1 x.flds.length n1 (ofL x.body) x.close) (v := agg6 x.st (ofL x.meth) (ofL x.path) A1 x.flds.length n1 (ofL x.body) x.close) (by simp [execOp, e19, z0, z1, z2, z3, z4, z5, agg6, go_sem]) rfl
        · intro ρ wx hE hx hd
          replace hE := Ext.undrew hE
          have e20 : ρ (.tmp 20) = agg6 x.st (ofL x.meth) (ofL x.path) A1 x.flds.length n1 (ofL x.body) x.close := hd.1
          have hf : ∀ f, ρ (.func f) = .func (.func f) #[] #[] := fun f => (hx (.func f) (by simp)).trans rfl
          refine gives_call (G := fun vv _ => vv = agg6 x.st (ofL x.meth) (ofL x.path) A1 x.flds.length n1 (ofL x.body) x.close) (by simp [execOp, e20, hf, go_sem] <;> first | exact ⟨rfl, rfl⟩ | exact rfl) ?_
          exact call_below (item_any wx _ _ _ _ _ _ _ _)
        · intro ρ wx hE hx hd
          replace hE := Ext.undrew hE
          have e22 : ρ (.tmp 22) = .slice (some ⟨b2, o2, none⟩) its.length cb := hd.1
          have e23 : ρ (.tmp 23) = .int .i64 k := hd.2.1
          exact gives_val (G := fun vv _ => vv = .pointer (some ⟨b2, o2 + k * 6, none⟩)) (v := .pointer (some ⟨b2, o2 + k * 6, none⟩)) (by simp [execOp, e22, e23, hq0, hq1, hkt, hlt, add_off, go_sem]) rfl
        · intro ρ wx hE hx hd
          replace hE := Ext.undrew hE
          have e24 : ρ (.tmp 24) = .pointer (some ⟨b2, o2 + k * 6, none⟩) := hd.1
          have I := HI2.out.below hb2 hE; have z0 := I.c0; have z1 := I.c1; have z2 := I.c2; have z3 := I.c3; have z4 := I.c4; have z5 := I.c5; exact gives_val (G := fun vv _ => vv = agg6 x.st (ofL x.meth) (ofL x.path) A2 x.flds.length n2 (ofL x.body) x.close) (v := agg6 x.st (ofL x.meth) (ofL x.path) A2 x.flds.length n2 (ofL x.body) x.close) (by simp [execOp, e24, z0, z1, z2, z3, z4, z5, agg6, go_sem]) rfl
        · intro ρ wx hE hx hd
          replace hE := Ext.undrew hE
          have e21 : ρ (.tmp 21) = agg6 x.st (ofL x.meth) (ofL x.path) A1 x.flds.length n1 (ofL x.body) x.close := hd.1
          have e25 : ρ (.tmp 25) = agg6 x.st (ofL x.meth) (ofL x.path) A2 x.flds.length n2 (ofL x.body) x.close := hd.2.1
          have hf : ∀ f, ρ (.func f) = .func (.func f) #[] #[] := fun f => (hx (.func f) (by simp)).trans rfl
          refine gives_call (G := fun vv _ => vv = .bool true) (by simp [execOp, e21, e25, hf, go_sem] <;> first | exact ⟨rfl, rfl⟩ | exact rfl) ?_
          exact call_below (sameitem_any wx _ _ _ _ _ x.flds hxf A1 A2 n1 n2 _ _ (HI1.out.below hb1 hE).flds (HI2.out.below hb2 hE).flds)
        · intro ρ wx hE hx hd
          replace hE := Ext.undrew hE
          have e26 : ρ (.tmp 26) = .bool true := hd.1
          exact gives_val (G := fun vv _ => vv = .bool false) (v := .bool false) (by simp [execOp, e26, go_sem]) rfl
      intro wx hE
      refine fun v17 (e17 : v17 = .slice (some ⟨b1, o1, none⟩) its.length ca) => ?_
      refine fun v18 (e18 : v18 = .int .i64 k) => ?_
      refine fun v19 (e19 : v19 = .pointer (some ⟨b1, o1 + k * 6, none⟩)) => ?_
      refine fun v20 (e20 : v20 = agg6 x.st (ofL x.meth) (ofL x.path) A1 x.flds.length n1 (ofL x.body) x.close) => ?_
      refine fun v21 (e21 : v21 = agg6 x.st (ofL x.meth) (ofL x.path) A1 x.flds.length n1 (ofL x.body) x.close) => ?_
      refine fun v22 (e22 : v22 = .slice (some ⟨b2, o2, none⟩) its.length cb) => ?_
      refine fun v23 (e23 : v23 = .int .i64 k) => ?_
      refine fun v24 (e24 : v24 = .pointer (some ⟨b2, o2 + k * 6, none⟩)) => ?_
      refine fun v25 (e25 : v25 = agg6 x.st (ofL x.meth) (ofL x.path) A2 x.flds.length n2 (ofL x.body) x.close) => ?_
      refine fun v26 (e26 : v26 = .bool true) => ?_
      refine fun v27 (e27 : v27 = .bool false) => ?_
      subst e17 e18 e19 e20 e21 e22 e23 e24 e25 e26 e27
      refine rest_nil ?_
      refine wpList_nil ?_
      simp only [Exit.then, Act.put, List.setIfInBounds_toArray, List.set_cons_zero, List.set_cons_succ]
      refine go_on (by assumption) ?_
      have HE := Lib.hid hE
      clear hE
      go_wp2_with fail
      go_roundw
      case rel => exact ⟨k + 1, by omega, by go_num, HBR.out.trans (HE.out.mono HBR.out.size)⟩
      case measure => simp [intOf]; omega
    · obtain rfl : k = its.length := by omega
      go_wp2_with fail
      go_ret
      exact hR _ _ ⟨rfl, HBR.out⟩
end Go.Proofs.YtaihjnicondifaaDoor.Asc
