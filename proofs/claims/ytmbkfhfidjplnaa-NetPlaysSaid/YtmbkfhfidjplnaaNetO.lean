/-
  Contracts of the reference's Send, Twice, Clear.
  Lengths within the rows' own reach.
-/
import Derived.Test.YtmbkfhfidjplnaaNetM
namespace Go.Proofs.Ytmbkfhfidjplnaa.Nt
open Go Go.RowKit Go.Proofs.Ytmbkfhfidjplnaa.Pb

theorem Keep.drewL {F : Nat → Prop} {w w' : World} (h : Keep F w.drew w') : Keep F w w' := ((Keep.refl F w).drew).trans h (fun _ _ h => h)

section
variable {P : Program} {ops : Array Oper} {o : Oper} {a : Act} {w : World} {K : Act → World → Prop} {Q : Exit → Act → World → Prop} {E : Prop}
theorem step_append1_at {α : Type} {r : Rp α} {F : Nat → Prop} {xs : List α} {v : Value} {s x : Operand} {t e : TypeId} {z : Value} {bytes : Nat} {y : α} {d : Option Tmp} {ty : TypeId} {pos : String} {af : Array Edge}
    (ht : P.underlying t = some (.slice e)) (hinfo : (P.info? e).map (fun i => (i.zero, i.size, i.bytes)) = some (some z, r.sz, bytes)) (hzs : z.cells.size = r.sz) (hsz : 0 < r.sz)
    (hown : Own r e w F xs v) (hs : a.eval s = v) {cs : Array Value} (hx : a.eval x = .slice (some ⟨w.heap.size, 0, none⟩) 1 1) {G : Nat → Prop} (hy : r.rep w G y cs.toList) (hG : ∀ k, G k → some k ≠ v.ownBlock)
    (h63 : xs.length < 1099511627776) (hb : bytes ≤ 100)
    (h : ∀ v' w', Own r e w' (fun k => F k ∨ G k ∨ w.heap.size ≤ k) (xs ++ [y]) v' → Keep (fun k => some k = v.ownBlock) w w' → (v'.ownBlock = v.ownBlock ∨ ∃ k, v'.ownBlock = some k ∧ w.heap.size ≤ k) → K (a.put d v') w') :
    if Region.wanted ⟨d, .call ⟨.builtin .append, #[s, x], #[t, t]⟩, ty, pos, af, none⟩ (yielded ops a.tmps) = true then Oper.wp P ⟨d, .call ⟨.builtin .append, #[s, x], #[t, t]⟩, ty, pos, af, none⟩ a (w.alloc (.cells cs e)) K Q else E := by
  refine step_wanted rfl ?_
  have hown' := hown.alloc (.cells cs e)
  have hy' : r.rep (w.alloc (.cells cs e)) (fun k => G k ∧ k < w.heap.size) y cs.toList := r.step (fun k hk => Below.heap_alloc _ _ _ hk.2) (r.bnd hy)
  have hat : At (w.alloc (.cells cs e)) w.heap.size 0 cs.toList := fun j u hu => by
    rw [blk_cell (blk_new w _)]; simpa using hu
  have hmul : (xs.length + [y].length) * bytes ≤ 140737488355328 := by
    have : (xs.length + 1) * bytes ≤ 1099511627776 * 100 := Nat.mul_le_mul (by omega) hb
    simp only [List.length_cons, List.length_nil, Nat.zero_add]; omega
  obtain ⟨v', w', hr, ho, hk, hn, hb'⟩ := run_append_rows (ty := ty) (c := 1) ht hinfo hzs hsz hown' hat (Elems.one hy') (fun k hk => hG k hk.1) (by simp only [List.length_cons, List.length_nil]; unfold maxLen; omega) hmul
  unfold Oper.wp
  rw [exec_append (v := v') (w' := w') (by simpa [hs, hx] using hr)]
  refine h v' w' (ho.mono ?_) ⟨hk.os, hk.tape, hk.output, ?_, ?_⟩ (hb'.imp id fun ⟨k, h1, h2⟩ => ⟨k, h1, by simp at h2; omega⟩)
  · intro k hk'
    rcases hk' with h1 | h1 | h1
    · exact .inl h1
    · exact .inr (.inl h1.1)
    · exact .inr (.inr (by simp at h1; omega))
  · have := hk.size; simp at this; omega
  · intro k hk' hne
    exact (hk.block k (by simp; omega) hne).trans (Below.heap_alloc _ _ _ hk')
end

def takes (cur : List Pk) (x : Pk) : Bool := decide (cur.length < 64) && okP x
theorem put_takes (cur : List Pk) (x : Pk) : put cur x = if takes cur x = true then cur ++ [x] else cur := by
  unfold put takes
  by_cases h : cur.length < 64 <;> simp [h]

set_option maxRecDepth 20000 in
set_option maxHeartbeats 2000000 in
theorem rsend_gen (t : TypeId) (w : World) (F G : Nat → Prop) (b : Nat) (l ps : List Pk) (v : Value) (h : NetAt t w F b l) (hv : View pkt w G ps v) (hdb : ¬ G b) (hd : ∀ v k, w.heap[b]? = some (.cells #[v] t (0, 0)) → v.ownBlock = some k → ¬ G k) (hl : l.length ≤ 1000000) (hp : ps.length ≤ 1000000) (hb : ∀ x ∈ ps, x.2.2.length ≤ 140737488351232) :
    Calls Try.prog 17 #[.pointer (some ⟨b, 0, none⟩), v] w fun e w' => e = .returned (.int .i64 (((sends l ps).length - l.length : Nat) : Int)) ∧ Keep F w w' ∧ NetAt t w' (fun k => F k ∨ (w.heap.size ≤ k ∧ k < w'.heap.size)) b (sends l ps) := by
  obtain ⟨A, c, rfl, hc, hget⟩ := view_get hv
  refine calls_gen fun R hR => ?_
  have HG := Lib.hid hget
  have H := Lib.hid h; have HD := Lib.hid hd; have HDB := Lib.hid hdb; have HBB := Lib.hid hb
  have hbF : Hid (F b) := Lib.hid (by obtain ⟨_, _, h, _⟩ := h; exact h)
  clear hget hv h hd hdb hb
  go_enter Try.func17, Try.ntmps17
  go_wp2_with fail
  go_loopw [5, 6, 7] (fun n i _ wr => ∃ k : Nat, k ≤ ps.length ∧ i = .int .i64 k ∧ n = .int .i64 (((sends l (ps.take k)).length - l.length : Nat) : Int) ∧ Keep F w wr ∧ NetAt t wr (fun j => F j ∨ (w.heap.size ≤ j ∧ j < wr.heap.size)) b (sends l (ps.take k)) ∧ (∀ j, G j → j < w.heap.size → wr.heap[j]? = w.heap[j]?) ∧ (∀ S j, wr.heap[b]? = some (.cells #[S] t (0, 0)) → S.ownBlock = some j → G j → w.heap.size ≤ j)) (fun _ i _ _ => ps.length - (intOf i).toNat)
  case atStart => exact ⟨0, Nat.zero_le _, rfl, by simp [sends], Keep.refl _ _, H.out.mono (fun _ h => .inl h), fun _ _ _ => rfl, fun S j h1 h2 h3 => (HD.out S j h1 h2 h3).elim⟩
  case round =>
    obtain ⟨k, hk, rfl, rfl, hkw, hn, hGk, hGo⟩ := hrel
    have HGK := Lib.hid hGk; have HGO := Lib.hid hGo
    clear hGk hGo
    have hsl := sends_len (ps.take k) l
    obtain ⟨cur, hcur⟩ : ∃ z, sends l (ps.take k) = z := ⟨_, rfl⟩
    have HCUR := Lib.hid hcur
    rw [hcur] at hn hsl ⊢
    clear hcur
    by_cases hlt : k < ps.length
    · obtain ⟨g, off, rfl, hg, hGg, hx⟩ := HG.out k hlt
      obtain ⟨x, he⟩ : ∃ x, ps[k]? = some x := ⟨_, List.getElem?_eq_getElem hlt⟩
      obtain ⟨B, c', hv, hc0, hc1, hc2⟩ := hx x he
      have hxl := HBB.out x (List.mem_of_getElem? he)
      have hFg := HGK.out g hGg hg
      have hd0 := (World.cell?_of_block (w := w) (w' := wr) (a := ⟨g, off + k * 3, none⟩) hFg).trans hc0
      have hd1 := (World.cell?_of_block (w := w) (w' := wr) (a := ⟨g, off + k * 3 + 1, none⟩) hFg).trans hc1
      have hd2 := (World.cell?_of_block (w := w) (w' := wr) (a := ⟨g, off + k * 3 + 2, none⟩) hFg).trans hc2
      have HV := Lib.hid (hv.bnd.step (fun k h => HGK.out k h.1 h.2))
      have hog := HGO.out
      have HS := Lib.hid (sends_snoc l ps k x he)
      have HPT := Lib.hid (put_takes cur x)
      have hgr : g < wr.heap.size := by have := hkw.size; omega
      have HKWS := Lib.hid hkw.size
      have HKW := Lib.hid hkw; have HN := Lib.hid hn
      clear hx he hv hc0 hc1 hc2 hkw hn hFg
      go_upto_region 6 with fail
      obtain ⟨wv, hwv⟩ : ∃ wv, wr.alloc (.cells #[.int .i64 x.1, .int .i64 x.2.1, .slice B x.2.2.length c'] 33) = wv := ⟨_, rfl⟩
      have g1 := blk_new wr (.cells #[.int .i64 x.1, .int .i64 x.2.1, .slice B x.2.2.length c'] 33)
      have hbv := below_new wr (.cells #[.int .i64 x.1, .int .i64 x.2.1, .slice B x.2.2.length c'] 33)
      have hsv : (wr.alloc (.cells #[.int .i64 x.1, .int .i64 x.2.1, .slice B x.2.2.length c'] 33)).heap.size = wr.heap.size + 1 := by simp
      rw [hwv] at g1 hbv hsv ⊢
      have hnv := (HN.out.bnd.below hbv)
      have HVV := Lib.hid (HV.out.below hbv)
      have HKV := Lib.hid (HKW.out.trans (Keep.old (F := F) hbv) (fun _ _ h => h))
      have HNV := Lib.hid hnv
      obtain ⟨S, hbk, hFb, ho⟩ := hnv
      obtain ⟨SA, sc, rfl, hsc⟩ := ho.slice
      have cb0 := blk_cell hbk 0
      have fb0 := blk_free hbk 0
      have c10 := blk_cell g1 0
      have f10 := blk_free g1 0
      have c11 := blk_cell g1 1
      have f11 := blk_free g1 1
      have c12 := blk_cell g1 2
      have f12 := blk_free g1 2
      simp at cb0 c10 c11 c12
      have hblt := blk_lt hbk
      have hbr : b < wr.heap.size := hFb.2
      have hvlt := blk_lt g1
      have HSV := Lib.hid hsv
      have HGV : Hid (∀ j, G j → j < w.heap.size → wv.heap[j]? = w.heap[j]?) := Lib.hid fun j h1 h2 => (hbv.block j (by have := HKWS.out; omega)).trans (HGK.out j h1 h2)
      have HOG : Hid (∀ j, (Value.slice SA cur.length sc).ownBlock = some j → G j → w.heap.size ≤ j) := Lib.hid fun j h1 h2 => hog _ j ((hbv.block b hbr).symm.trans hbk) h1 h2
      have HWB : Hid (wv.heap[b]? = some (.cells #[.slice SA cur.length sc] t (0, 0))) := Lib.hid hbk
      clear hsv hog
      have HBK := Lib.hid hbk; have HO := Lib.hid ho; have G1 := Lib.hid g1
      clear hwv hbk ho g1 hbv hd0 hd1 hd2 HN HV HKW
      go_cut [50] (fun u wx => u = .bool (!takes cur x) ∧ wx = wv)
      case first =>
        have HT := Lib.hid (show takes cur x = (decide (cur.length < 64) && (decide (1 ≤ x.1) && decide (x.1 ≤ 9) && (decide (1 ≤ x.2.1) && decide (x.2.1 ≤ 9)) && !decide (x.1 = x.2.1))) from rfl)
        obtain ⟨x1, x2, x3⟩ := x
        simp only at HT c10 c11 c12 ⊢
        go_wp2_with fail
        all_goals
          go_meet
          refine ⟨?_, rfl⟩
          rw [HT.out]
          congr 1
          rw [Bool.eq_iff_iff]
          simp only [Bool.or_eq_true, Bool.not_eq_true', Bool.and_eq_false_iff, decide_eq_true_eq, decide_eq_false_iff_not, Bool.not_eq_false', beq_iff_eq, true_iff]
          omega
      case rest =>
        obtain ⟨rfl, hwx⟩ := hcut
        rw [hwx]
        clear hwx wc
        cases htk : takes cur x with
        | false =>
          rw [htk] at HPT
          have HP : Hid (put (sends l (ps.take k)) x = cur) := Lib.hid (by rw [HCUR.out]; exact HPT.out)
          clear htk
          go_wp2_with fail
          go_roundw
          case rel => exact ⟨k + 1, by omega, by go_num, by rw [HS.out, HP.out], HKV.out, by rw [HS.out, HP.out]; exact HNV.out.mono (fun j hj => hj.1.imp id fun h => ⟨h.1, by have := h.2; have := HSV.out; omega⟩), HGV.out, fun S j h1 h2 h3 => by rw [HWB.out] at h1; cases h1; exact HOG.out j h2 h3⟩
          case measure => simp [intOf]; omega
        | true =>
          rw [htk] at HPT
          have HP : Hid (put (sends l (ps.take k)) x = cur ++ [x]) := Lib.hid (by rw [HCUR.out]; exact HPT.out)
          have hc64 : cur.length < 64 := by unfold takes at htk; simp at htk; exact htk.1
          clear htk
          go_wp2_with (with_reducible (first | refine stop_append ?_))
          refine ⟨wp_clone Try.underlying31 info5 rfl (show 0 < 1 by decide) rfl rfl HVV.out (by unfold maxLen; omega) (by omega) ?_⟩
          rintro v2 w2 ho2 hb2 ⟨g2, c2, rfl, hc2, hg2⟩
          have hbk2 := (hb2.block b hblt).trans HBK.out
          have g12 := (hb2.block wr.heap.size hvlt).trans G1.out
          have ho2' : Own Rp.u8 5 w2 (fun k => k = g2) x.2.2 (.slice (some ⟨g2, 0, none⟩) x.2.2.length c2) := ho2.flat fun k hk => by simp [Value.ownBlock] at hk; exact hk.symm
          have hs2 := hb2.size
          have hg2l : g2 < w2.heap.size := by obtain ⟨_, _, h2, _⟩ := ho2.bnd; exact (h2 g2 rfl).2
          obtain ⟨w3, hw3⟩ : ∃ w3, w2.setCell ⟨wr.heap.size, 2, none⟩ (.slice (some ⟨g2, 0, none⟩) x.2.2.length c2) = w3 := ⟨_, rfl⟩
          have k3 : Keep (fun k => k = wr.heap.size) w2 w3 := by rw [← hw3]; exact (Keep.refl (fun k => k = wr.heap.size) w2).set (p := ⟨wr.heap.size, 2, none⟩) rfl _
          have f12 := blk_free g12 2
          have c12' := blk_cell g12 2
          simp at c12'
          have hv2l := blk_lt g12
          have g13 := blk_set g12 2 (.slice (some ⟨g2, 0, none⟩) x.2.2.length c2)
          rw [hw3] at g13
          have hbk3 := k3.blk hbk2 (by omega)
          have hs3 := k3.size
          have e10 := blk_cell g13 0
          have e11 := blk_cell g13 1
          have e12 := blk_cell g13 2
          have eb0 := blk_cell hbk3 0
          have ef0 := blk_free hbk3 0
          simp at e10 e11 e12 eb0
          have hbl3 := blk_lt hbk3
          have hvl3 := blk_lt g13
          have HO3 := Lib.hid ((HO.out.below hb2).keep k3 (fun k h e => by have := h.1.2; omega))
          have HY : Hid (pkt.rep w3 (fun k => k = g2) x [.int .i64 x.1, .int .i64 x.2.1, .slice (some ⟨g2, 0, none⟩) x.2.2.length c2]) := Lib.hid ⟨[_], _, rfl, rfl, [_], _, rfl, rfl, _, rfl, (ho2'.keep k3 (fun k h e => by omega)).view⟩
          have HK3 := Lib.hid ((HKV.out.trans (Keep.old (F := F) hb2) (fun _ _ h => h)).trans k3 (fun i hi e => by have := HKWS.out; omega))
          have HG3 : Hid (∀ j, G j → j < w.heap.size → w3.heap[j]? = w.heap[j]?) := Lib.hid fun j h1 h2 => ((k3.block j (by have := HKV.out.size; omega) (fun e => by have e' : j = wr.heap.size := e; have := HKWS.out; omega)).trans (hb2.block j (by have := HKV.out.size; omega))).trans (HGV.out j h1 h2)
          have HB3 := Lib.hid hbk3; have HW3 := Lib.hid hw3
          clear ho2 hb2 hbk2 ho2' k3 g13 hbk3 g12 hw3
          go_wp2_with fail
          rw [HW3.out]
          have kd : Keep (fun _ => False) w3 w3.drew := (Keep.refl _ _).drew
          have HO4 := Lib.hid (HO3.out.keep kd (fun _ _ h => h))
          have HY4 := Lib.hid (pkt.keep kd (fun _ _ h => h) HY.out)
          have hob : Hid (∀ k, (Value.slice SA cur.length sc).ownBlock = some k → (F k ∨ w.heap.size ≤ k) ∧ k ≠ b ∧ k < wr.heap.size) := Lib.hid fun k hk => by
            obtain ⟨_, _, h2, _⟩ := HO.out
            have h3 := h2 k hk
            exact ⟨h3.1.1.imp id (fun h => h.1), h3.2, h3.1.2⟩
          clear kd HO3 HY
          go_region_law (
            refine step_append1_at (r := pkt) (F := fun k => (F k ∨ w.heap.size ≤ k) ∧ k ≠ b ∧ k < w2.heap.size) (G := fun k => k = g2) (y := x) Try.underlying25 infoP rfl (by decide) (HO4.out.mono fun k h => ⟨h.1.1.imp id (fun h => h.1), h.2, by have := h.1.2; omega⟩) (by simp [Act.eval]) (by simp [Act.eval]) HY4.out (fun k hk e => by have := (hob.out k e.symm).2.2; omega) (by omega) (by decide) ?_
            intro v6 w6 ho6 hk6 hp6
            have HP6 := Lib.hid hp6
            clear hp6
            obtain ⟨z, hz⟩ : ∃ z, cur ++ [x] = z := ⟨_, rfl⟩
            have hzl : z.length = cur.length + 1 := by rw [← hz]; simp
            rw [hz] at ho6 HP
            clear hz
            obtain ⟨A6, c6, rfl, hc6⟩ := ho6.slice
            have hbk6 := hk6.blk HB3.out (fun e => (hob.out b e.symm).2.1 rfl)
            have cb6 := blk_cell hbk6 0
            have fb6 := blk_free hbk6 0
            simp at cb6
            have hbl6 := blk_lt hbk6
            have HO6 := Lib.hid ho6; have HK6 := Lib.hid hk6; have HB6 := Lib.hid hbk6
            have HZL := Lib.hid hzl
            clear ho6 hk6 hbk6 hzl)
          all_goals
            go_wp2_with fail
            have hb7 := blk_set HB6.out 0 (.slice A6 z.length c6)
            have kS : Keep (fun k => k = b) w6 (w6.setCell ⟨b, 0, none⟩ (.slice A6 z.length c6)) := (Keep.refl (fun k => k = b) w6).set (p := ⟨b, 0, none⟩) rfl _
            have hs6 := HK6.out.size
            have hk7 : Keep F w (w6.setCell ⟨b, 0, none⟩ (.slice A6 z.length c6)) := (HK3.out.trans (G := fun k => some k = (Value.slice SA cur.length sc).ownBlock) (by exact (Keep.drewL HK6.out)) (fun i hi h => (hob.out i h.symm).1.resolve_right (by omega))).trans kS (fun i _ h => h ▸ hbF.out)
            have hn7 : NetAt t (w6.setCell ⟨b, 0, none⟩ (.slice A6 z.length c6)) (fun j => F j ∨ (w.heap.size ≤ j ∧ j < (w6.setCell ⟨b, 0, none⟩ (.slice A6 z.length c6)).heap.size)) b z := by
              refine ⟨_, by simpa using hb7, .inl hbF.out, (HO6.out.bnd.keep kS (fun k h e => ?_)).mono fun k h => ?_⟩
              · have e' : k = b := e
                rcases h.1 with h1 | h1 | h1
                · exact h1.2.1 e
                · have h1' : k = g2 := h1
                  have := HSV.out; omega
                · have h1' : w3.heap.size ≤ k := h1
                  have := HSV.out; omega
              · have h6 := h.2
                rw [size_setCell]
                have := HSV.out; have := HKWS.out
                rcases h.1 with ⟨h1 | h1, h2⟩ | h1 | h1
                · exact ⟨.inl h1, h2.1⟩
                · exact ⟨.inr ⟨h1, h6⟩, h2.1⟩
                · have h1' : k = g2 := h1
                  exact ⟨.inr ⟨by omega, h6⟩, by omega⟩
                · have h1' : w3.heap.size ≤ k := h1
                  exact ⟨.inr ⟨by omega, h6⟩, by omega⟩
            have hs6' : w3.heap.size ≤ w6.heap.size := HK6.out.size
            have hg7 : ∀ j, G j → j < w.heap.size → (w6.setCell ⟨b, 0, none⟩ (.slice A6 z.length c6)).heap[j]? = w.heap[j]? := fun j h1 h2 =>
              ((kS.block j (by have := HK3.out.size; omega) (fun e => HDB.out (by have e' : j = b := e; rw [← e']; exact h1))).trans ((Keep.drewL HK6.out).block j (by have := HK3.out.size; omega) (fun e => by have := HOG.out j e.symm h1; omega))).trans (HG3.out j h1 h2)
            have ho7 : ∀ S j, (w6.setCell ⟨b, 0, none⟩ (.slice A6 z.length c6)).heap[b]? = some (.cells #[S] t (0, 0)) → S.ownBlock = some j → G j → w.heap.size ≤ j := fun S j h1 h2 h3 => by
              have hb8 : (w6.setCell ⟨b, 0, none⟩ (.slice A6 z.length c6)).heap[b]? = some (.cells #[.slice A6 z.length c6] t (0, 0)) := by simpa using hb7
              rw [hb8] at h1
              cases h1
              rcases HP6.out with h4 | ⟨q, h4, h5⟩
              · exact HOG.out j (h4.symm.trans h2) h3
              · have e := Option.some.inj (h4.symm.trans h2)
                have h5' : w3.heap.size ≤ q := h5
                have := HK3.out.size; omega
            go_roundw
            case rel => exact ⟨k + 1, by omega, by go_num, by rw [HS.out, HP.out, HZL.out]; congr 1; omega, hk7, by rw [HS.out, HP.out]; exact hn7, hg7, ho7⟩
            case measure => simp [intOf]; omega
    · obtain rfl : k = ps.length := by omega
      have HKW := Lib.hid hkw; have HN := Lib.hid hn
      clear hkw hn
      rw [List.take_length] at HCUR
      go_wp2_with fail
      go_ret
      exact hR _ _ ⟨ret_int (by rw [HCUR.out]), HKW.out, by rw [HCUR.out]; exact HN.out⟩

theorem rsend_any (t : TypeId) (w : World) (F G : Nat → Prop) (b : Nat) (l ps : List Pk) (v : Value) (h : NetAt t w F b l) (hv : View pkt w G ps v) (hd : ∀ k, F k → ¬ G k) (hl : l.length ≤ 1000000) (hp : ps.length ≤ 1000000) (hb : ∀ x ∈ ps, x.2.2.length ≤ 140737488351232) :
    Calls Try.prog 17 #[.pointer (some ⟨b, 0, none⟩), v] w fun e w' => e = .returned (.int .i64 (((sends l ps).length - l.length : Nat) : Int)) ∧ Keep F w w' ∧ NetAt t w' (fun k => F k ∨ (w.heap.size ≤ k ∧ k < w'.heap.size)) b (sends l ps) := by
  have h' := h
  obtain ⟨v0, h1, h2, h3⟩ := h'
  refine rsend_gen t w F G b l ps v h hv (hd b h2) (fun v1 k e1 e2 => ?_) hl hp hb
  rw [h1] at e1; cases e1
  obtain ⟨_, _, h4, _⟩ := h3
  exact hd k (h4 k e2).1

set_option maxHeartbeats 1000000 in
theorem rpeek_row (t : TypeId) (w : World) (F : Nat → Prop) (b : Nat) (l : List Pk) (v : Value) (hbk : w.heap[b]? = some (.cells #[v] t (0, 0))) (ho : Own pkt 33 w (fun k => (F k ∧ k ≠ b) ∧ k < w.heap.size) l v) (k : Int) :
    Calls Try.prog 23 #[.pointer (some ⟨b, 0, none⟩), .int .i64 k] w fun e w' => ∃ u ok, e = .returned (.tuple #[u, .bool ok]) ∧ Lent w' (fun i => F i ∧ i < w.heap.size ∧ i ≠ b ∧ some i ≠ v.ownBlock) (peek l k) u ok ∧ Below w.heap.size w w' := by
  refine calls_gen fun R hR => ?_
  obtain ⟨A, c, rfl, hc, hget⟩ := pkts_get ho
  have h0 := blk_cell hbk 0
  have hlt := blk_lt hbk
  simp at h0
  clear ho hbk
  have HG := Lib.hid hget; clear hget
  have HBL := Lib.hid (below_new w (Obj.cells #[Value.int IntKind.i64 0, Value.int IntKind.i64 0, Value.slice none 0 0] 33))
  by_cases hk0 : k < 0
  · have hp : Hid (peek l k = none) := Lib.hid (if_pos hk0)
    go_enter Try.func23, Try.ntmps23
    go_wp2_with fail
    refine bodyPost_ret (v := .tuple #[pv (0, 0, []) (.slice none 0 0), .bool false]) (by simp [results, Try.results23, go_sem, pv]) rfl ?_
    exact hR _ _ ⟨_, _, rfl, ⟨by rw [hp.out]; rfl, _, by rw [hp.out]; rfl, by rw [hp.out]; exact View.nil _ _ _⟩, HBL.out⟩
  · obtain ⟨n, rfl⟩ := Int.eq_ofNat_of_zero_le (Int.not_lt.1 hk0)
    have hp : Hid (peek l n = l[n]?) := Lib.hid (by unfold peek; rw [if_neg hk0]; rfl)
    by_cases hn : n < l.length
    · obtain ⟨g, rfl, hg, hx⟩ := HG.out n hn
      obtain ⟨x, he⟩ : ∃ x, l[n]? = some x := ⟨_, List.getElem?_eq_getElem hn⟩
      obtain ⟨B, c', hv, hc0, hc1, hc2⟩ := hx x he
      rw [he] at hp
      have HV := Lib.hid (hv.mono (F' := fun i => F i ∧ i < w.heap.size ∧ i ≠ b ∧ some i ≠ (Value.slice (some ⟨g, 0, none⟩) l.length c).ownBlock) fun i h => ⟨h.1.1.1, h.1.2, h.1.1.2, fun e => h.2 (by simpa [Value.ownBlock] using e)⟩)
      clear hx he hv HG
      go_enter Try.func23, Try.ntmps23
      go_wp2_with fail
      refine bodyPost_ret (v := .tuple #[pv x (Value.slice B x.2.2.length c'), .bool true]) (by simp [results, Try.results23, go_sem, pv]) rfl ?_
      refine hR _ _ ⟨_, _, rfl, ⟨by rw [hp.out]; rfl, _, by rw [hp.out]; rfl, by rw [hp.out]; exact HV.out.below (below_new _ _)⟩, below_new _ _⟩
    · have hp2 : Hid (peek l n = none) := Lib.hid (hp.out.trans (List.getElem?_eq_none (by omega)))
      clear hp
      go_enter Try.func23, Try.ntmps23
      go_wp2_with fail
      refine bodyPost_ret (v := .tuple #[pv (0, 0, []) (.slice none 0 0), .bool false]) (by simp [results, Try.results23, go_sem, pv]) rfl ?_
      exact hR _ _ ⟨_, _, rfl, ⟨by rw [hp2.out]; rfl, _, by rw [hp2.out]; rfl, by rw [hp2.out]; exact View.nil _ _ _⟩, HBL.out⟩


set_option maxHeartbeats 1000000 in
theorem rtwice_any (t : TypeId) (w : World) (F : Nat → Prop) (b : Nat) (l : List Pk) (h : NetAt t w F b l) (k : Int) (hl : l.length ≤ 1000000) (hb : ∀ x ∈ l, x.2.2.length ≤ 140737488351232) :
    Calls Try.prog 21 #[.pointer (some ⟨b, 0, none⟩), .int .i64 k] w fun e w' => e = .returned (.bool (decide ((twice l k).length = l.length + 1))) ∧ Keep F w w' ∧ NetAt t w' (fun k => F k ∨ (w.heap.size ≤ k ∧ k < w'.heap.size)) b (twice l k) := by
  refine calls_gen fun R hR => ?_
  have H := Lib.hid h; have HB := Lib.hid hb
  have hlt : b < w.heap.size := by obtain ⟨_, hb, _⟩ := h; exact blk_lt hb
  -- the bytes lie beside the net's own row
  obtain ⟨v0, hv1, hv2, hv3⟩ := h
  have hv4 := hv3.bnd
  clear hb
  go_enter Try.func21, Try.ntmps21
  have HV1 := Lib.hid hv1; have HV4 := Lib.hid hv4
  clear hv1 hv2 hv3 hv4
  go_wp2_with fail
  refine (rpeek_row t w F b l v0 HV1.out HV4.out k).mono ?_
  rintro e w3 ⟨u, ok, rfl, ⟨hok, u2, rfl, hu⟩, hb3⟩
  obtain ⟨A', c2, e2, hc2'⟩ : ∃ A c, u2 = .slice A ((peek l k).getD (0, 0, [])).2.2.length c ∧ ((peek l k).getD (0, 0, [])).2.2.length ≤ c := by obtain ⟨A, c, e, h, _⟩ := hu; exact ⟨A, c, e, h⟩
  subst e2
  obtain ⟨x, hx⟩ : ∃ x, (peek l k).getD (0, 0, []) = x := ⟨_, rfl⟩
  rw [hx] at hu hc2' ⊢
  have hs3 := hb3.size
  cases hp : peek l k with
  | none =>
    rw [hp] at hok
    have HT : Hid (twice l k = l) := Lib.hid (by unfold twice; rw [hp])
    have HB3 := Lib.hid hb3
    cases hok
    clear hp hx hu hb3
    unfold pv
    rw [show (none : Option Pk).isSome = false from rfl]
    go_wp2_with fail
    go_ret
    have hbw := HB3.out.trans ((below_new w3 (.cells #[.int .i64 x.1, .int .i64 x.2.1, .slice A' x.2.2.length c2] 33)).mono hs3)
    refine hR _ _ ⟨by rw [HT.out, decide_eq_false (by omega)]; rfl, Keep.old hbw, by rw [HT.out]; exact (H.out.below hbw).mono fun _ h => .inl h⟩
  | some y =>
    rw [hp] at hok hx
    have HT : Hid (twice l k = put l y) := Lib.hid (by unfold twice; rw [hp])
    have HB3 := Lib.hid hb3
    have HXY : Hid (y = x) := Lib.hid hx
    have hyl : y.2.2.length ≤ 140737488351232 := by
      have hm : y ∈ l := by
        unfold peek at hp; split at hp
        · cases hp
        · exact List.mem_of_getElem? hp
      exact HB.out y hm
    rw [HXY.out] at hyl
    have HU := Lib.hid hu
    cases hok
    clear hp hx hu hb3
    unfold pv
    rw [show (some y : Option Pk).isSome = true from rfl]
    go_wp2_with fail
    obtain ⟨w5, hw5⟩ : ∃ w5, (w3.alloc (.cells #[.int .i64 x.1, .int .i64 x.2.1, .slice A' x.2.2.length c2] 33)).alloc (.cells #[.int .i64 x.1, .int .i64 x.2.1, .slice A' x.2.2.length c2] 33) = w5 := ⟨_, rfl⟩
    have hn1 := below_new w3 (.cells #[.int .i64 x.1, .int .i64 x.2.1, .slice A' x.2.2.length c2] 33)
    have hn2 := below_new (w3.alloc (.cells #[.int .i64 x.1, .int .i64 x.2.1, .slice A' x.2.2.length c2] 33)) (.cells #[.int .i64 x.1, .int .i64 x.2.1, .slice A' x.2.2.length c2] 33)
    have hg := blk_new (w3.alloc (.cells #[.int .i64 x.1, .int .i64 x.2.1, .slice A' x.2.2.length c2] 33)) (.cells #[.int .i64 x.1, .int .i64 x.2.1, .slice A' x.2.2.length c2] 33)
    have hz1 : (w3.alloc (.cells #[.int .i64 x.1, .int .i64 x.2.1, .slice A' x.2.2.length c2] 33)).heap.size = w3.heap.size + 1 := by simp
    rw [hz1, hw5] at hg
    rw [hw5] at hn2 ⊢
    have hn := hn1.trans (hn2.mono (by omega))
    have hbw := HB3.out.trans (hn.mono hs3)
    have hu5 := (HU.out.below hn).mono (F' := fun i => (F i ∧ i < w.heap.size ∧ i ≠ b ∧ some i ≠ v0.ownBlock) ∨ w.heap.size ≤ i) (fun i h => .inl h)
    have hs5 := hn2.size
    clear hw5 hn1 hn2 hz1
    refine (rsend_gen t w5 (fun k => F k ∧ k < w.heap.size) (fun i => (F i ∧ i < w.heap.size ∧ i ≠ b ∧ some i ≠ v0.ownBlock) ∨ w.heap.size ≤ i) b l [x] _ (H.out.bnd.move fun k hk _ => hbw.block k hk.2) (view_one hg hu5 (.inr (by omega))) (fun h => ?_) (fun v1 i e1 e2 h => ?_) hl (by simp) (by simpa using hyl)).mono ?_
    · rcases h with h | h
      · exact h.2.2.1 rfl
      · omega
    · rw [hbw.block b hlt, HV1.out] at e1
      cases e1
      rcases h with h | h
      · exact h.2.2.2 e2.symm
      · obtain ⟨_, _, h4, _⟩ := HV4.out
        have := (h4 i e2).2; omega
    rintro e w6 ⟨rfl, hk6, hn6⟩
    have hse : sends l [x] = put l x := rfl
    rw [hse] at hn6 ⊢
    have HK6 := Lib.hid ((Keep.old (F := F) hbw).trans hk6 (fun i _ h => h.1))
    have HN6 := Lib.hid hn6
    have h56 := hk6.size
    have hw5 := hbw.size
    have hpl := put_len l x
    clear hk6 hn6 hbw hu5 hn hg
    obtain ⟨n, hn⟩ : ∃ n, (put l x).length = n := ⟨_, rfl⟩
    rw [hn] at hpl ⊢
    have HL := Lib.hid hn
    clear hn
    have hpl2 : n ≤ l.length + 1 := by rw [← HL.out]; unfold put; split <;> simp
    rw [HXY.out] at HT
    have HFIN : Hid (NetAt t w6 (fun k => F k ∨ (w.heap.size ≤ k ∧ k < w6.heap.size)) b (twice l k)) := Lib.hid (by
      rw [HT.out]; exact HN6.out.mono fun k h => h.imp (fun h => h.1) fun h => ⟨by omega, h.2⟩)
    clear HN6
    by_cases hc : n = l.length + 1
    · subst hc
      have h1 : (((l.length + 1 - l.length : Nat) : Int) == 1) = true := by rw [beq_iff_eq]; omega
      go_wp2_with fail
      go_ret
      refine hR _ _ ⟨?_, HK6.out, HFIN.out⟩
      rw [HT.out, HL.out, decide_eq_true rfl]; rfl
    · obtain rfl : n = l.length := by omega
      have h1 : (((l.length - l.length : Nat) : Int) == 1) = false := by rw [beq_eq_false_iff_ne]; omega
      go_wp2_with fail
      go_ret
      refine hR _ _ ⟨?_, HK6.out, HFIN.out⟩
      rw [HT.out, HL.out, decide_eq_false hc]; rfl
end Go.Proofs.Ytmbkfhfidjplnaa.Nt
