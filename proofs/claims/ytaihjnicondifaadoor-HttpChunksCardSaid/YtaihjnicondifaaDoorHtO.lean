/-
  Contract of Feed: bytes are fed, in one piece.
  Lengths within the rows' own reach; the library's MaxLen is a number.
-/
import Derived.Test.YtaihjnicondifaaDoorHtN
namespace Go.Proofs.YtaihjnicondifaaDoor.Asc
open Go Go.RowKit Go.Proofs.YtaihjnicondifaaDoor.Pb

/-- a parser's cells are made zero -/
def put14 (w : World) (b : Nat) : World := ((((((((((((((w.setCell ⟨b, 0, none⟩ (.slice none 0 0)).setCell ⟨b, 1, none⟩ (.bool false)).setCell ⟨b, 2, none⟩ (.int .i64 0)).setCell ⟨b, 3, none⟩ (.int .i64 0)).setCell ⟨b, 4, none⟩ (.string ⟨#[]⟩)).setCell ⟨b, 5, none⟩ (.string ⟨#[]⟩)).setCell ⟨b, 6, none⟩ (.slice none 0 0)).setCell ⟨b, 7, none⟩ (.string ⟨#[]⟩)).setCell ⟨b, 8, none⟩ (.bool false)).setCell ⟨b, 9, none⟩ (.int .u8 0)).setCell ⟨b, 10, none⟩ (.int .i64 0)).setCell ⟨b, 11, none⟩ (.slice none 0 0)).setCell ⟨b, 12, none⟩ (.int .i64 0)).setCell ⟨b, 13, none⟩ (.bool false))
theorem keep14 (w : World) (b : Nat) : Keep (fun k => k = b) w (put14 w b) := (((((((((((((((Keep.refl (fun k => k = b) w).set (p := ⟨b, 0, none⟩) rfl (.slice none 0 0)).set (p := ⟨b, 1, none⟩) rfl (.bool false)).set (p := ⟨b, 2, none⟩) rfl (.int .i64 0)).set (p := ⟨b, 3, none⟩) rfl (.int .i64 0)).set (p := ⟨b, 4, none⟩) rfl (.string ⟨#[]⟩)).set (p := ⟨b, 5, none⟩) rfl (.string ⟨#[]⟩)).set (p := ⟨b, 6, none⟩) rfl (.slice none 0 0)).set (p := ⟨b, 7, none⟩) rfl (.string ⟨#[]⟩)).set (p := ⟨b, 8, none⟩) rfl (.bool false)).set (p := ⟨b, 9, none⟩) rfl (.int .u8 0)).set (p := ⟨b, 10, none⟩) rfl (.int .i64 0)).set (p := ⟨b, 11, none⟩) rfl (.slice none 0 0)).set (p := ⟨b, 12, none⟩) rfl (.int .i64 0)).set (p := ⟨b, 13, none⟩) rfl (.bool false))
theorem blk14 {w : World} {b : Nat} {p : PS} {L F B : Value} (h : w.heap[b]? = some (.cells (pcells p L F B).toArray 33 (0, 0))) : (put14 w b).heap[b]? = some (.cells zero14.toArray 33 (0, 0)) := by
  have := (blk_set (blk_set (blk_set (blk_set (blk_set (blk_set (blk_set (blk_set (blk_set (blk_set (blk_set (blk_set (blk_set (blk_set h 0 (.slice none 0 0)) 1 (.bool false)) 2 (.int .i64 0)) 3 (.int .i64 0)) 4 (.string ⟨#[]⟩)) 5 (.string ⟨#[]⟩)) 6 (.slice none 0 0)) 7 (.string ⟨#[]⟩)) 8 (.bool false)) 9 (.int .u8 0)) 10 (.int .i64 0)) 11 (.slice none 0 0)) 12 (.int .i64 0)) 13 (.bool false))
  have e : zero14.toArray = #[.slice none 0 0, .bool false, .int .i64 0, .int .i64 0, .string ⟨#[]⟩, .string ⟨#[]⟩, .slice none 0 0, .string ⟨#[]⟩, .bool false, .int .u8 0, .int .i64 0, .slice none 0 0, .int .i64 0, .bool false] := rfl
  rw [e]
  simpa [put14, pcells] using this

/-- what was fed to a parser: it, and a row of Items -/
def Out (q : PS) (its : List It) (S : Nat → Prop) (b : Nat) (w w' : World) (v : Value) : Prop :=
  ∃ S1 O : Nat → Prop, PAt w' S1 b q ∧ Own itm 41 w' O its v ∧ (∀ k, S1 k → ¬ O k) ∧ (∀ k, S1 k ∨ O k → S k ∨ w.heap.size ≤ k) ∧ ¬ O b ∧ Keep (fun k => S k ∨ k = b) w w'

theorem feedN_stop {p q : PS} {bs : List UInt8} {its : List It} {k : Nat} (h : feedN p (bs.take k) = (q, its)) (ho : q.over = true) : feedN p bs = (q, its) := by
  conv => lhs; rw [← List.take_append_drop k bs, feedN_app, h, feedN_over _ _ ho]
  simp
theorem feedN_step {p q q5 : PS} {bs : List UInt8} {its : List It} {k : Nat} {c : UInt8} (h : feedN p (bs.take k) = (q, its)) (hc : bs[k]? = some c) (ho : q.over = false) (ht : takeN q c = (q5, none)) : feedN p (bs.take (k + 1)) = (q5, its) := by
  rw [List.take_add_one, hc, Option.toList_some, feedN_snoc, h]
  unfold stepN
  rw [ho, if_neg (by decide), ht]
  simp
theorem feedN_good {p q q5 : PS} {bs : List UInt8} {its : List It} {k : Nat} {c : UInt8} {x : It} (h : feedN p (bs.take k) = (q, its)) (hc : bs[k]? = some c) (ho : q.over = false) (ht : takeN q c = (q5, some x)) (hx : (x.st != 0) = false) : feedN p (bs.take (k + 1)) = ({}, its ++ [x]) := by
  rw [List.take_add_one, hc, Option.toList_some, feedN_snoc, h]
  unfold stepN
  rw [ho, if_neg (by decide), ht]
  dsimp only
  rw [if_pos (by simpa using hx)]
theorem feedN_badly {p q q5 : PS} {bs : List UInt8} {its : List It} {k : Nat} {c : UInt8} {x : It} (h : feedN p (bs.take k) = (q, its)) (hc : bs[k]? = some c) (ho : q.over = false) (ht : takeN q c = (q5, some x)) (hx : (x.st != 0) = true) : feedN p (bs.take (k + 1)) = ({ q5 with over := true }, its ++ [x]) := by
  rw [List.take_add_one, hc, Option.toList_some, feedN_snoc, h]
  unfold stepN
  rw [ho, if_neg (by decide), ht]
  dsimp only
  rw [if_neg (by simpa using hx)]

set_option maxHeartbeats 4000000 in
set_option maxRecDepth 20000 in
/-- bytes are fed -/
theorem pfeed_any (w : World) (S : Nat → Prop) (b : Nat) (p : PS) (h : PAt w S b p) (n : Nat) (hn : Live n p) (bs : List UInt8) (hnb : n + bs.length ≤ 100000) (v : Value) (G : Nat → Prop) (hv : View Rp.u8 w G bs v) (hG : ∀ k, G k → ¬ S k ∧ k ≠ b)
    (hsg : ¬ S 0) (m : Int) (hm : w.cell? ⟨0, 0, none⟩ = some (.int .i64 m)) :
    Calls Tryd.prog 13 #[.pointer (some ⟨b, 0, none⟩), v] w fun e w' => ∃ v', e = .returned v' ∧ Out (feedN p bs).1 (feedN p bs).2 S b w w' v' := by
  refine calls_gen fun R hR => ?_
  have HM := Lib.hid hm; have HML := Lib.hid (World.block_lt_of_cell? w _ hm); have HSG := Lib.hid hsg
  have HLB : Hid (b < w.heap.size) := Lib.hid h.lt
  have HNS : Hid (¬ S b) := Lib.hid h.out
  have HMB : Hid (0 ≠ b) := Lib.hid (h.ne hm)
  have H := Lib.hid h.bnd
  have HN := Lib.hid hn; have HG := Lib.hid hG; have HV := Lib.hid hv
  obtain ⟨BA, bc, rfl, hbc, -⟩ := hv.open1
  clear hm h hn hG hsg hv
  go_enter Tryd.func13, Tryd.ntmps13
  go_wp2_with fail
  go_loopw [4, 11] (fun v i wr => ∃ k : Nat, k ≤ bs.length ∧ i = .int .i64 k ∧ Out (feedN p (bs.take k)).1 (feedN p (bs.take k)).2 S b w wr v) (fun _ i _ => bs.length - (intOf i).toNat)
  case atStart => exact ⟨0, Nat.zero_le _, rfl, fun k => S k ∧ k < w.heap.size, fun _ => False, H.out, Own.nil _ _ _ _, fun _ _ h => h, fun k h => h.elim (fun h => .inl h.1) (fun h => h.elim), id, Keep.refl _ _⟩
  case round =>
    obtain ⟨k, hk, rfl, S1, O, hp, ho, hd, hin, hob, hkp⟩ := hrel
    obtain ⟨⟨q, its⟩, hr⟩ : ∃ r, feedN p (bs.take k) = r := ⟨_, rfl⟩
    rw [hr] at hp ho
    dsimp only at hp ho
    have hil : its.length ≤ k := by
      have := feedN_len (bs.take k) p
      rw [hr, List.length_take] at this; dsimp only at this; omega
    have HRK := Lib.hid hr
    have HLV : Hid (Live (n + k) q) := Lib.hid (by
      have := feedN_live (bs.take k) HN.out
      rw [hr, List.length_take, Nat.min_eq_left hk] at this; exact this)
    obtain ⟨OA, oc, rfl, hoc⟩ := ho.slice
    have HP := Lib.hid hp; have HO := Lib.hid ho; have HD := Lib.hid hd; have HIN := Lib.hid hin; have HOB := Lib.hid hob; have HKP := Lib.hid hkp
    have HVR := Lib.hid (HV.out.keep hkp fun k hk h => by
      rcases h with h | h
      · exact (HG.out k hk).1 h
      · exact (HG.out k hk).2 h)
    have hws := hkp.size
    clear hr hp ho hd hin hob hkp
    by_cases hlt : k < bs.length
    · obtain ⟨c, hc⟩ : ∃ c, bs[k]? = some c := ⟨_, List.getElem?_eq_getElem hlt⟩
      have HC := Lib.hid hc
      obtain ⟨A', c', e, _, hget⟩ := HVR.out.open1
      cases e
      obtain ⟨g, off, rfl, hg, hgx⟩ := hget k hlt
      have d0 : wr.cell? ⟨g, off + k, none⟩ = some (.int .u8 c.toNat) := hgx k c hc
      clear hget hgx hc
      go_wp2_with fail
      refine (over_any wr S1 b q HP.out).mono ?_
      rintro e w2 ⟨rfl, hw2⟩
      rw [hw2]
      clear hw2
      cases hov : q.over with
      | true =>
        rw [feedN_stop HRK.out hov] at hR
        clear hov
        go_wp2_with fail
        go_ret
        exact hR _ _ ⟨_, rfl, S1, O, HP.out, HO.out, HD.out, HIN.out, HOB.out, HKP.out⟩
      | false =>
        have HOV := Lib.hid hov
        clear hov
        go_wp2_with fail
        have HMR : Hid (wr.cell? ⟨0, 0, none⟩ = some (.int .i64 m)) := Lib.hid (HKP.out.cell HM.out fun e => by
          rcases e with e | e
          · exact HSG.out e
          · exact HMB.out e)
        have HF := HLV.out.fed
        refine (take_any wr S1 b q HP.out ⟨by have := HF.fl; omega, fun x hx => by have := HF.fx x hx; omega⟩ ⟨HF.sz, HLV.out.sz HOV.out⟩ (by have := HF.hd; omega) (by have := HF.ln; omega) (by have := HF.bd; omega) (by have := HF.lf; omega)
          (fun h => by
            have := HML.out
            rcases HIN.out _ (.inl h) with h | h
            · exact HSG.out h
            · omega) c m HMR.out).mono ?_
        clear HF
        intro e w5 ht
        obtain ⟨⟨q5, o5⟩, hr5⟩ : ∃ r, takeN q c = r := ⟨_, rfl⟩
        rw [hr5] at ht
        obtain ⟨v5, rfl, ⟨fv, rfl, hfo, hfs⟩, hp5, hk5⟩ := ht
        dsimp only at hfo hfs hp5 ⊢
        obtain ⟨FA, fc, rfl, hfc⟩ := hfo.slice
        have HR5 := Lib.hid hr5
        have HP5 := Lib.hid hp5.bnd
        have hws5 := hk5.size
        have HK5 : Hid (Keep (fun k => S k ∨ k = b) w w5) := Lib.hid (HKP.out.trans hk5 fun i hi h => by
          rcases h with h | h
          · rcases HIN.out i (.inl h) with h | h
            · exact .inl h
            · omega
          · exact .inr h)
        have HO5 := Lib.hid ((HO.out.bnd).keep hk5 fun i hi h => by
          rcases h with h | h
          · exact HD.out i h hi.1
          · exact HOB.out (h ▸ hi.1))
        clear hr5 hp5 hk5 d0
        cases o5 with
        | none =>
          dsimp only [Option.getD, Option.isSome] at hfo hfs ⊢
          obtain ⟨w6, hw6⟩ : ∃ w6, w5.alloc (.cells #[.int .i64 (badI 0).st, .string (ofL (badI 0).meth), .string (ofL (badI 0).path), .slice FA (badI 0).flds.length fc, .string (ofL (badI 0).body), .bool (badI 0).close] 41) = w6 := ⟨_, rfl⟩
          have HG6 : Hid (w6.heap[w5.heap.size]? = some (.cells #[.int .i64 (badI 0).st, .string (ofL (badI 0).meth), .string (ofL (badI 0).path), .slice FA (badI 0).flds.length fc, .string (ofL (badI 0).body), .bool (badI 0).close] 41 (0, 0))) := Lib.hid (hw6 ▸ blk_new w5 _)
          have HB6 : Hid (Below w5.heap.size w5 w6) := Lib.hid (hw6 ▸ below_new w5 _)
          have HW6 := Lib.hid hw6
          clear hw6
          go_upto_region 7 with fail
          rw [HW6.out]
          have hws6 := HB6.out.size
          have HP6 := Lib.hid (HP5.out.below HB6.out)
          have HO6 := Lib.hid (HO5.out.below HB6.out)
          have HK6 := Lib.hid (HK5.out.trans (Keep.old (F := fun _ => False) HB6.out) fun _ _ h => h.elim)
          clear hfo hfs
          go_wp2_with fail
          go_roundw
          case rel =>
            refine ⟨k + 1, by omega, by go_num, ?_⟩
            rw [feedN_step HRK.out HC.out HOV.out HR5.out]
            exact ⟨_, _, HP6.out, HO6.out, fun j h1 h2 => by
              rcases h1.1 with h | h
              · exact HD.out j h h2.1
              · have := h2.2; omega, fun j h => by
              rcases h with h | h
              · rcases h.1 with h | h
                · exact HIN.out j (.inl h)
                · exact .inr (by omega)
              · exact HIN.out j (.inr h.1), fun h => HOB.out h.1, HK6.out⟩
          case measure => simp [intOf]; omega
        | some x =>
          dsimp only [Option.getD, Option.isSome] at hfo hfs ⊢
          obtain ⟨w6, hw6⟩ : ∃ w6, w5.alloc (.cells #[.int .i64 x.st, .string (ofL x.meth), .string (ofL x.path), .slice FA x.flds.length fc, .string (ofL x.body), .bool x.close] 41) = w6 := ⟨_, rfl⟩
          have HG6 : Hid (w6.heap[w5.heap.size]? = some (.cells #[.int .i64 x.st, .string (ofL x.meth), .string (ofL x.path), .slice FA x.flds.length fc, .string (ofL x.body), .bool x.close] 41 (0, 0))) := Lib.hid (hw6 ▸ blk_new w5 _)
          have HB6 : Hid (Below w5.heap.size w5 w6) := Lib.hid (hw6 ▸ below_new w5 _)
          have HW6 := Lib.hid hw6
          clear hw6
          go_upto_region 7 with fail
          rw [HW6.out]
          have hws6 := HB6.out.size
          have HP6 := Lib.hid (HP5.out.below HB6.out)
          have HO6 := Lib.hid (HO5.out.below HB6.out)
          have HK6 := Lib.hid (HK5.out.trans (Keep.old (F := fun _ => False) HB6.out) fun _ _ h => h.elim)
          obtain ⟨z0, z1, z2, z3, z4, z5⟩ := cell6 HG6.out
          have hlt6 := blk_lt HG6.out
          have HFV := Lib.hid (hfo.view.below HB6.out)
          have HFW := Lib.hid (((hfo.bnd.mono fun j h => (⟨hfs j h.1, h.2⟩ : (S1 j ∨ wr.heap.size ≤ j) ∧ j < w5.heap.size)).view).below HB6.out)
          clear hfo hfs
          have hown : Hid (∀ j, (Value.slice OA its.length oc).ownBlock = some j → O j ∧ j < wr.heap.size) := Lib.hid fun j hj => by
            obtain ⟨_, _, h2, _⟩ := HO.out.bnd
            exact h2 j hj
          go_wp2_with (with_reducible (first | refine stop_append ?_))
          cases hst : (x.st != 0) with
          | true =>
            have HX : Hid (x.flds = []) := Lib.hid (by
              rcases takeN_item q c x (by rw [HR5.out]) with h | h
              · rw [h] at hst; cases hst
              · exact h)
            refine ⟨wp_append1 (r := itm) (F := fun k => O k ∧ k < wr.heap.size) (G := fun _ => False) (y := x) Tryd.underlying23 infoI rfl (show 0 < 6 by decide) HO6.out rfl rfl (itm_rep (view_none HFV.out HX.out)) (fun k h => h.elim) (by omega) (by decide) ?_⟩
            intro v8 w8 ho8 hk8 _ hb8
            have hne8 : Hid (∀ j, some j = (Value.slice OA its.length oc).ownBlock → O j ∧ j < wr.heap.size) := Lib.hid fun j hj => hown.out j hj.symm
            have HK8 := Lib.hid hk8
            have hws8 := hk8.size
            have HP8 := Lib.hid (HP6.out.keep hk8 fun j hj h e => by
              have h2 := hne8.out j e
              rcases h with h | h
              · rcases h.1 with h | h
                · exact HD.out j h h2.1
                · omega
              · exact HOB.out (h ▸ h2.1))
            have HG8 := Lib.hid (hk8.blk HG6.out fun e => by have := (hne8.out _ e).2; omega)
            have HO8 := Lib.hid ho8
            obtain ⟨VA, vc, rfl, hvc⟩ := ho8.slice
            clear hk8 hb8 ho8 z0 z1 z2 z3 z4 z5 hlt6
            have z0 := (cell6 HG8.out).1
            have hlt8 := blk_lt HG8.out
            obtain ⟨L, F, B, hpi⟩ := HP8.out
            have HPI := Lib.hid hpi
            have hltb := blk_lt hpi.blk
            have c13 := blk_cell hpi.blk 13
            have f13 := blk_free hpi.blk 13
            simp only [pcells, List.getElem?_toArray, List.getElem?_cons_zero, List.getElem?_cons_succ] at c13
            clear hpi
            obtain ⟨zz, hzz⟩ : ∃ z, its ++ [x] = z := ⟨_, rfl⟩
            rw [hzz] at HO8 hvc
            rw [hzz]
            have HZZ := Lib.hid hzz
            clear hzz
            go_wp2_with fail
            have kS := (Keep.refl (fun k => k = b) w8).set (p := ⟨b, 13, none⟩) rfl (.bool true)
            have hPS := HPI.out.scal (p' := { q5 with over := true }) kS (blk_set HPI.out.blk 13 (.bool true)) rfl rfl rfl
            have KS := Lib.hid kS; have PS := Lib.hid hPS
            clear kS hPS
            go_roundw
            case rel =>
              refine ⟨k + 1, by omega, by go_num, ?_⟩
              rw [feedN_badly HRK.out HC.out HOV.out HR5.out hst, HZZ.out]
              have hs9 : (w8.setCell ⟨b, 13, none⟩ (.bool true)).heap.size = w8.heap.size := size_setCell _ _ _
              refine ⟨fun j => (S1 j ∨ wr.heap.size ≤ j) ∧ j < w5.heap.size, _, ⟨_, _, _, PS.out.mono (fun j hj h => ?_) HP5.out.out⟩, HO8.out.keep KS.out (fun j h e => ?_), fun j h1 h2 => ?_, fun j h => ?_, fun h => ?_, (HK6.out.trans (HK8.out) fun j hj e => ?_).trans KS.out fun j _ h => .inr h⟩
              · rcases h with h | h
                · exact h
                · omega
              · subst e
                rcases h with h | h | h
                · exact HOB.out h.1
                · exact h.elim
                · have := HLB.out; omega
              · rcases h2 with h | h | h
                · rcases h1.1 with h' | h'
                  · exact HD.out j h' h.1
                  · omega
                · exact h.elim
                · omega
              · rcases h with h | h | h | h
                · rcases h.1 with h | h
                  · exact HIN.out j (.inl h)
                  · exact .inr (by omega)
                · exact HIN.out j (.inr h.1)
                · exact h.elim
                · exact .inr (by omega)
              · rcases h with h | h | h
                · exact HOB.out h.1
                · exact h.elim
                · have := HLB.out; omega
              · rcases HIN.out j (.inr (hne8.out j e).1) with h | h
                · exact .inl h
                · omega
            case measure => simp [intOf]; omega
          | false =>
            refine ⟨wp_append1 (r := itm) (F := fun k => O k ∧ k < wr.heap.size) (G := fun k => (S1 k ∨ wr.heap.size ≤ k) ∧ k < w5.heap.size) (y := x) Tryd.underlying23 infoI rfl (show 0 < 6 by decide) HO6.out rfl rfl (itm_rep HFW.out) (fun j h e => by
              have h2 := hown.out j e.symm
              rcases h.1 with h | h
              · exact HD.out j h h2.1
              · omega) (by omega) (by decide) ?_⟩
            intro v8 w8 ho8 hk8 _ hb8
            have hne8 : Hid (∀ j, some j = (Value.slice OA its.length oc).ownBlock → O j ∧ j < wr.heap.size) := Lib.hid fun j hj => hown.out j hj.symm
            have HK8 := Lib.hid hk8
            have hws8 := hk8.size
            have HP8 := Lib.hid (HP6.out.keep hk8 fun j hj h e => by
              have h2 := hne8.out j e
              rcases h with h | h
              · rcases h.1 with h | h
                · exact HD.out j h h2.1
                · omega
              · exact HOB.out (h ▸ h2.1))
            have HG8 := Lib.hid (hk8.blk HG6.out fun e => by have := (hne8.out _ e).2; omega)
            have HO8 := Lib.hid ho8
            obtain ⟨VA, vc, rfl, hvc⟩ := ho8.slice
            clear hk8 hb8 ho8 z0 z1 z2 z3 z4 z5 hlt6
            have z0 := (cell6 HG8.out).1
            have hlt8 := blk_lt HG8.out
            obtain ⟨L, F, B, hpi⟩ := HP8.out
            have HPI := Lib.hid hpi
            have hltb := blk_lt hpi.blk
            have c0 := blk_cell hpi.blk 0
            have f0 := blk_free hpi.blk 0
            have c1 := blk_cell hpi.blk 1
            have f1 := blk_free hpi.blk 1
            have c2 := blk_cell hpi.blk 2
            have f2 := blk_free hpi.blk 2
            have c3 := blk_cell hpi.blk 3
            have f3 := blk_free hpi.blk 3
            have c4 := blk_cell hpi.blk 4
            have f4 := blk_free hpi.blk 4
            have c5 := blk_cell hpi.blk 5
            have f5 := blk_free hpi.blk 5
            have c6 := blk_cell hpi.blk 6
            have f6 := blk_free hpi.blk 6
            have c7 := blk_cell hpi.blk 7
            have f7 := blk_free hpi.blk 7
            have c8 := blk_cell hpi.blk 8
            have f8 := blk_free hpi.blk 8
            have c9 := blk_cell hpi.blk 9
            have f9 := blk_free hpi.blk 9
            have c10 := blk_cell hpi.blk 10
            have f10 := blk_free hpi.blk 10
            have c11 := blk_cell hpi.blk 11
            have f11 := blk_free hpi.blk 11
            have c12 := blk_cell hpi.blk 12
            have f12 := blk_free hpi.blk 12
            have c13 := blk_cell hpi.blk 13
            have f13 := blk_free hpi.blk 13
            simp only [pcells, List.getElem?_toArray, List.getElem?_cons_zero, List.getElem?_cons_succ] at c0 c1 c2 c3 c4 c5 c6 c7 c8 c9 c10 c11 c12 c13
            clear hpi
            obtain ⟨zz, hzz⟩ : ∃ z, its ++ [x] = z := ⟨_, rfl⟩
            rw [hzz] at HO8 hvc
            rw [hzz]
            have HZZ := Lib.hid hzz
            clear hzz
            go_wp2_with fail
            have KS := Lib.hid (keep14 w8 b)
            have PS := Lib.hid (pin_zero (S := fun _ => False) (blk14 HPI.out.blk) id)
            unfold put14 at KS PS
            go_roundw
            case rel =>
              refine ⟨k + 1, by omega, by go_num, ?_⟩
              rw [feedN_good HRK.out HC.out HOV.out HR5.out hst, HZZ.out]
              refine ⟨fun _ => False, _, ⟨_, _, _, PS.out⟩, HO8.out.keep KS.out (fun j h e => ?_), fun j h1 h2 => h1, fun j h => ?_, fun h => ?_, (HK6.out.trans (HK8.out) fun j hj e => ?_).trans KS.out fun j _ h => .inr h⟩
              · subst e
                rcases h with h | h | h
                · exact HOB.out h.1
                · exact HP5.out.out h
                · have := HLB.out; omega
              · rcases h with h | h | h | h
                · exact h.elim
                · exact HIN.out j (.inr h.1)
                · rcases h.1 with h | h
                  · exact HIN.out j (.inl h)
                  · exact .inr (by omega)
                · exact .inr (by omega)
              · rcases h with h | h | h
                · exact HOB.out h.1
                · exact HP5.out.out h
                · have := HLB.out; omega
              · rcases HIN.out j (.inr (hne8.out j e).1) with h | h
                · exact .inl h
                · omega
            case measure => simp [intOf]; omega
    · obtain rfl : k = bs.length := by omega
      rw [List.take_length] at HRK
      rw [HRK.out] at hR
      go_wp2_with fail
      go_ret
      exact hR _ _ ⟨_, rfl, S1, O, HP.out, HO.out, HD.out, HIN.out, HOB.out, HKP.out⟩
end Go.Proofs.YtaihjnicondifaaDoor.Asc
