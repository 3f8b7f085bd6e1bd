/-
  Contract of Net.Send.
  Lengths within the rows' own reach.
-/
import Derived.Test.YtmbkfhfidjplnaaNetD
import Derived.Deep.RegionWith
namespace Go.Proofs.Ytmbkfhfidjplnaa.Nt
open Go Go.RowKit Go.Proofs.Ytmbkfhfidjplnaa.Pb

theorem view_get {w : World} {G : Nat → Prop} {l : List Pk} {v : Value} (h : View pkt w G l v) :
    ∃ A c, v = .slice A l.length c ∧ l.length ≤ c ∧ (∀ k, k < l.length → ∃ g off, A = some ⟨g, off, none⟩ ∧ g < w.heap.size ∧ G g ∧ ∀ x, l[k]? = some x → ∃ B c', View Rp.u8 w G x.2.2 (.slice B x.2.2.length c') ∧
      w.cell? ⟨g, off + k * 3, none⟩ = some (.int .i64 x.1) ∧ w.cell? ⟨g, off + k * 3 + 1, none⟩ = some (.int .i64 x.2.1) ∧ w.cell? ⟨g, off + k * 3 + 2, none⟩ = some (.slice B x.2.2.length c')) := by
  obtain ⟨A, c, rfl, hc, hA, h⟩ := h
  refine ⟨A, c, rfl, hc, fun k hk => ?_⟩
  rcases h with rfl | ⟨g, off, cells, rfl, hG, hlt, hat, hel⟩
  · simp at hk
  · refine ⟨g, off, rfl, hlt, hG, fun x hx => ?_⟩
    obtain ⟨us, cs, bs, rfl, ha, hr, _, _⟩ := hel.get (fun _ _ h => pkt.len h) k hk
    have hx' : l[k] = x := by rw [List.getElem?_eq_getElem hk] at hx; exact Option.some.inj hx
    rw [hx'] at hr
    obtain ⟨c1, c2, rfl, rfl, d1, d2, rfl, rfl, u, rfl, hu⟩ := hr
    obtain ⟨B, c', rfl, hc'⟩ : ∃ B c', u = .slice B x.2.2.length c' ∧ x.2.2.length ≤ c' := by obtain ⟨B, c', e, h, _⟩ := hu; exact ⟨B, c', e, h⟩
    have hcell : ∀ j y, ([Value.int .i64 x.1] ++ ([Value.int .i64 x.2.1] ++ [Value.slice B x.2.2.length c']))[j]? = some y → w.cell? ⟨g, off + k * 3 + j, none⟩ = some y := by
      intro j y hj
      have h3 : us.length = k * 3 := ha
      have hjl := (List.getElem?_eq_some_iff.1 hj).1
      rw [Nat.add_assoc]
      refine hat (k * 3 + j) y ?_
      rw [List.append_assoc, List.getElem?_append_right (by omega), h3, Nat.add_sub_cancel_left, List.getElem?_append_left hjl]; exact hj
    exact ⟨B, c', hu, hcell 0 _ rfl, hcell 1 _ rfl, hcell 2 _ rfl⟩

def isNode (i : Int) : Bool := decide (1 ≤ i) && decide (i ≤ 9)
def okP (p : Pk) : Bool := isNode p.1 && isNode p.2.1 && !decide (p.1 = p.2.1)
def put (l : List Pk) (p : Pk) : List Pk := if l.length < 64 ∧ okP p = true then l ++ [p] else l
def sends (l ps : List Pk) : List Pk := ps.foldl put l
theorem put_len (l : List Pk) (p : Pk) : l.length ≤ (put l p).length ∧ (put l p).length ≤ max l.length 64 := by
  unfold put; split
  · simp; omega
  · omega
theorem sends_len (ps : List Pk) : ∀ l, l.length ≤ (sends l ps).length ∧ (sends l ps).length ≤ max l.length 64 := by
  induction ps with
  | nil => intro l; unfold sends; simp; omega
  | cons p ps ih =>
    intro l
    have h1 := put_len l p
    have h2 := ih (put l p)
    show l.length ≤ (sends (put l p) ps).length ∧ _
    have : sends l (p :: ps) = sends (put l p) ps := rfl
    rw [this]; omega
theorem sends_snoc (l ps : List Pk) (k : Nat) (x : Pk) (h : ps[k]? = some x) : sends l (ps.take (k + 1)) = put (sends l (ps.take k)) x := by
  unfold sends; rw [List.take_add_one, h]; simp
theorem put_mem (l : List Pk) (p x : Pk) (h : x ∈ put l p) : x ∈ l ∨ x = p := by
  unfold put at h; split at h
  · simpa using h
  · exact .inl h
theorem sends_mem (ps : List Pk) : ∀ l x, x ∈ sends l ps → x ∈ l ∨ x ∈ ps := by
  induction ps with
  | nil => intro l x h; exact .inl h
  | cons p ps ih =>
    intro l x h
    rcases ih (put l p) x h with h | h
    · rcases put_mem l p x h with h | h
      · exact .inl h
      · exact .inr (by rw [h]; simp)
    · exact .inr (by simp [h])

set_option maxHeartbeats 2000000 in
theorem send_any (t : TypeId) (w : World) (F G : Nat → Prop) (b : Nat) (l ps : List Pk) (v : Value) (h : NetAt t w F b l) (hv : View pkt w G ps v) (hd : ∀ k, F k → ¬ G k) (hl : l.length ≤ 1000000) (hp : ps.length ≤ 1000000) (hb : ∀ x ∈ ps, x.2.2.length ≤ 140737488351232) :
    Calls Try.prog 9 #[.pointer (some ⟨b, 0, none⟩), v] w fun e w' => e = .returned (.int .i64 (((sends l ps).length - l.length : Nat) : Int)) ∧ Keep F w w' ∧ NetAt t w' (fun k => F k ∨ (w.heap.size ≤ k ∧ k < w'.heap.size)) b (sends l ps) := by
  obtain ⟨A, c, rfl, hc, hget⟩ := view_get hv
  refine calls_gen fun R hR => ?_
  have HG := Lib.hid hget
  have H := Lib.hid h; have HD := Lib.hid hd; have HBB := Lib.hid hb
  have hbF : Hid (F b) := Lib.hid (by obtain ⟨_, _, h, _⟩ := h; exact h)
  clear hget hv h hd hb
  go_enter Try.func9, Try.ntmps9
  go_wp2_with fail
  go_loopw [4, 6, 9] (fun n _ i wr => ∃ k : Nat, k ≤ ps.length ∧ i = .int .i64 k ∧ n = .int .i64 (((sends l (ps.take k)).length - l.length : Nat) : Int) ∧ Keep F w wr ∧ NetAt t wr (fun j => F j ∨ (w.heap.size ≤ j ∧ j < wr.heap.size)) b (sends l (ps.take k))) (fun _ _ i _ => ps.length - (intOf i).toNat)
  case atStart => exact ⟨0, Nat.zero_le _, rfl, by simp [sends], Keep.refl _ _, H.out.mono fun _ h => .inl h⟩
  case round =>
    obtain ⟨k, hk, rfl, rfl, hkw, hn⟩ := hrel
    have hsl := sends_len (ps.take k) l
    obtain ⟨cur, hcur⟩ : ∃ z, sends l (ps.take k) = z := ⟨_, rfl⟩
    have HCUR := Lib.hid hcur
    rw [hcur] at hn hsl ⊢
    clear hcur
    by_cases hlt : k < ps.length
    · obtain ⟨g, off, rfl, hg, hGg, hx⟩ := HG.out k hlt
      obtain ⟨x, he⟩ : ∃ x, ps[k]? = some x := ⟨_, List.getElem?_eq_getElem hlt⟩
      obtain ⟨B, c', hv, hc0, hc1, hc2⟩ := hx x he
      have hxl := HBB.out x (List.mem_of_getElem? he)
      have hFg : ¬ F g := fun h => HD.out g h hGg
      have hd0 := hkw.cell hc0 hFg
      have hd1 := hkw.cell hc1 hFg
      have hd2 := hkw.cell hc2 hFg
      have HV := Lib.hid (hv.bnd.keep hkw fun k h hF => HD.out k hF h.1)
      have HS := Lib.hid (sends_snoc l ps k x he)
      have hgr : g < wr.heap.size := by have := hkw.size; omega
      have HKW := Lib.hid hkw; have HN := Lib.hid hn
      clear hx he hv hc0 hc1 hc2 hkw hn
      have hnew := below_new wr (.cells #[.int .i64 x.1, .int .i64 x.2.1, .slice B x.2.2.length c'] 33)
      have hnews : (wr.alloc (.cells #[.int .i64 x.1, .int .i64 x.2.1, .slice B x.2.2.length c'] 33)).heap.size = wr.heap.size + 1 := by simp
      have HNW := Lib.hid hnew; have HNS := Lib.hid hnews
      clear hnew hnews
      have hgo : Hid (okP x = (isNode x.1 && isNode x.2.1 && !decide (x.1 = x.2.1))) := rfl
      by_cases h64 : 64 ≤ cur.length
      · have HP : Hid (put (sends l (ps.take k)) x = cur) := Lib.hid (by rw [HCUR.out]; unfold put; rw [if_neg (by omega)])
        go_wp2_with fail
        refine (len_any t _ _ b cur (HN.out.new _)).mono ?_
        rintro e w' ⟨rfl, rfl⟩
        go_wp2_with fail
        go_roundw
        case rel => exact ⟨k + 1, by omega, by go_num, by rw [HS.out, HP.out], HKW.out.new _, by rw [HS.out, HP.out]; exact (HN.out.new _).mono fun j hj => hj.imp id fun h => ⟨h.1, by rw [HNS.out]; have := h.2; omega⟩⟩
        case measure => simp [intOf]; omega
      · have hc64 : cur.length < 64 := by omega
        cases hn1 : isNode x.1 with
        | false =>
          have HP : Hid (put (sends l (ps.take k)) x = cur) := Lib.hid (by rw [HCUR.out]; unfold put; rw [hgo.out, hn1, if_neg (by simp)])
          have hn1' : (decide (1 ≤ x.1) && decide (x.1 ≤ 9)) = false := hn1
          have HN1 := Lib.hid hn1'
          clear hn1 hn1'
          go_wp2_with fail
          refine (len_any t _ _ b cur (HN.out.new _)).mono ?_
          rintro e w' ⟨rfl, rfl⟩
          go_wp2_with fail
          refine (node_any x.1 _).mono ?_
          rintro e w' ⟨rfl, rfl⟩
          rw [HN1.out]
          go_wp2_with fail
          go_roundw
          case rel => exact ⟨k + 1, by omega, by go_num, by rw [HS.out, HP.out], HKW.out.new _, by rw [HS.out, HP.out]; exact (HN.out.new _).mono fun j hj => hj.imp id fun h => ⟨h.1, by rw [HNS.out]; have := h.2; omega⟩⟩
          case measure => simp [intOf]; omega
        | true =>
          have HN1 := Lib.hid (show (decide (1 ≤ x.1) && decide (x.1 ≤ 9)) = true from hn1)
          cases hn2 : isNode x.2.1 with
          | false =>
            have HP : Hid (put (sends l (ps.take k)) x = cur) := Lib.hid (by rw [HCUR.out]; unfold put; rw [hgo.out, hn2, if_neg (by simp)])
            have HN2 := Lib.hid (show (decide (1 ≤ x.2.1) && decide (x.2.1 ≤ 9)) = false from hn2)
            clear hn1 hn2
            go_wp2_with fail
            refine (len_any t _ _ b cur (HN.out.new _)).mono ?_
            rintro e w' ⟨rfl, rfl⟩
            go_wp2_with fail
            refine (node_any x.1 _).mono ?_
            rintro e w' ⟨rfl, rfl⟩
            rw [HN1.out]
            go_wp2_with fail
            refine (node_any x.2.1 _).mono ?_
            rintro e w' ⟨rfl, rfl⟩
            rw [HN2.out]
            go_wp2_with fail
            go_roundw
            case rel => exact ⟨k + 1, by omega, by go_num, by rw [HS.out, HP.out], HKW.out.new _, by rw [HS.out, HP.out]; exact (HN.out.new _).mono fun j hj => hj.imp id fun h => ⟨h.1, by rw [HNS.out]; have := h.2; omega⟩⟩
            case measure => simp [intOf]; omega
          | true =>
            have HN2 := Lib.hid (show (decide (1 ≤ x.2.1) && decide (x.2.1 ≤ 9)) = true from hn2)
            by_cases hft : x.1 = x.2.1
            · have HP : Hid (put (sends l (ps.take k)) x = cur) := Lib.hid (by rw [HCUR.out]; unfold put; rw [hgo.out, decide_eq_true hft, if_neg (by simp)])
              have hbe : (x.1 == x.2.1) = true := by simpa using hft
              clear hn1 hn2 hft
              go_wp2_with fail
              refine (len_any t _ _ b cur (HN.out.new _)).mono ?_
              rintro e w' ⟨rfl, rfl⟩
              go_wp2_with fail
              refine (node_any x.1 _).mono ?_
              rintro e w' ⟨rfl, rfl⟩
              rw [HN1.out]
              go_wp2_with fail
              refine (node_any x.2.1 _).mono ?_
              rintro e w' ⟨rfl, rfl⟩
              rw [HN2.out]
              go_wp2_with fail
              go_roundw
              case rel => exact ⟨k + 1, by omega, by go_num, by rw [HS.out, HP.out], HKW.out.new _, by rw [HS.out, HP.out]; exact (HN.out.new _).mono fun j hj => hj.imp id fun h => ⟨h.1, by rw [HNS.out]; have := h.2; omega⟩⟩
              case measure => simp [intOf]; omega
            · have HP : Hid (put (sends l (ps.take k)) x = cur ++ [x]) := Lib.hid (by rw [HCUR.out]; unfold put; rw [hgo.out, decide_eq_false hft, hn1, hn2, if_pos (by simp [hc64])])
              have hbe : (x.1 == x.2.1) = false := by simpa using hft
              clear hn1 hn2 hft
              go_wp2_with fail
              refine (len_any t _ _ b cur (HN.out.new _)).mono ?_
              rintro e w' ⟨rfl, rfl⟩
              go_wp2_with fail
              refine (node_any x.1 _).mono ?_
              rintro e w' ⟨rfl, rfl⟩
              rw [HN1.out]
              go_wp2_with fail
              refine (node_any x.2.1 _).mono ?_
              rintro e w' ⟨rfl, rfl⟩
              rw [HN2.out]
              go_wp2_with fail
              go_cut [] (fun wc => Keep F w wc ∧ NetAt t wc (fun j => F j ∨ (w.heap.size ≤ j ∧ j < wc.heap.size)) b (cur ++ [x]))
              case first =>
                obtain ⟨wv, hwv⟩ : ∃ wv, wr.alloc (.cells #[.int .i64 x.1, .int .i64 x.2.1, .slice B x.2.2.length c'] 33) = wv := ⟨_, rfl⟩
                have g1 := blk_new wr (.cells #[.int .i64 x.1, .int .i64 x.2.1, .slice B x.2.2.length c'] 33)
                have hnv := HN.out.new (.cells #[.int .i64 x.1, .int .i64 x.2.1, .slice B x.2.2.length c'] 33)
                have hvv := HV.out.below HNW.out
                have hkv := HKW.out.new (.cells #[.int .i64 x.1, .int .i64 x.2.1, .slice B x.2.2.length c'] 33)
                have hsv := HNS.out
                rw [hwv] at g1 hnv hvv hkv hsv ⊢
                have HKWs := HKW.out.size
                have hbw : b < w.heap.size := by obtain ⟨_, hb, _⟩ := H.out; exact blk_lt hb
                clear hwv HNW HNS HN HV HKW
                have kd : Keep (fun _ => False) wv wv.drew := (Keep.refl _ _).drew
                have hvd := Lib.hid (hvv.keep kd (fun _ _ h => h))
                obtain ⟨S, hbk, hFb, ho⟩ := hnv
                obtain ⟨SA, sc, rfl, hsc⟩ := ho.slice
                have hod := Lib.hid (ho.keep kd (fun _ _ h => h))
                have cb0 := blk_cell hbk 0
                have fb0 := blk_free hbk 0
                have c10 := blk_cell g1 0
                have c11 := blk_cell g1 1
                have c12 := blk_cell g1 2
                simp at cb0 c10 c11 c12
                have HBK := Lib.hid hbk; have HKV := Lib.hid hkv
                have hob : Hid (∀ k, (Value.slice SA cur.length sc).ownBlock = some k → (F k ∨ w.heap.size ≤ k ∧ k < wr.heap.size) ∧ k ≠ b ∧ k < wv.heap.size) := Lib.hid fun k hk => by
                  obtain ⟨_, _, h2, _⟩ := ho.bnd
                  exact ⟨(h2 k hk).1.1, (h2 k hk).1.2, (h2 k hk).2⟩
                have hblt : b < wr.heap.size := by
                  rcases hFb with h | h
                  · have := HKWs; have := hbw; omega
                  · exact h.2
                clear hvv kd ho hbk hkv g1
                have hltv : b < wv.heap.size := by omega
                go_region_law (first
                  | (refine step_call rfl 26 #[pv x (.slice B x.2.2.length c')] (by simp [Act.eval, pv, go_sem]) (own_any x _ _ _ hvd.out hxl) ?_
                     rintro e w5 ⟨u, rfl, hu, hb5⟩
                     obtain ⟨UA, uc, rfl, hucl⟩ := hu.slice
                     refine ⟨_, rfl, ?_⟩
                     have hbk5 := (hb5.block b (by show b < wv.heap.size; omega)).trans HBK.out
                     have cb5 := blk_cell hbk5 0
                     have fb5 := blk_free hbk5 0
                     simp at cb5
                     have hlt5 := blk_lt hbk5
                     have HU := Lib.hid hu; have HB5 := Lib.hid hb5; have HBK5 := Lib.hid hbk5
                     have HO5 := Lib.hid (hod.out.below hb5)
                     have HY5 : Hid (pkt.rep w5 (wv.heap.size ≤ ·) x [.int .i64 x.1, .int .i64 x.2.1, .slice UA x.2.2.length uc]) := Lib.hid ⟨[_], _, rfl, rfl, [_], _, rfl, rfl, _, rfl, hu.view⟩
                     clear hu hb5 hbk5
                     unfold pv)
                  | (refine step_append1 (r := pkt) (F := fun k => (F k ∨ w.heap.size ≤ k ∧ k < wr.heap.size) ∧ k ≠ b) (G := (wv.heap.size ≤ ·)) (y := x) Try.underlying25 infoP rfl (by decide) HO5.out (by simp [Act.eval]) (by simp [Act.eval]) HY5.out (fun k hk e => by have := (hob.out k e.symm).2.2; omega) (by omega) (by decide) ?_
                     intro v6 w6 ho6 hk6
                     obtain ⟨z, hz⟩ : ∃ z, cur ++ [x] = z := ⟨_, rfl⟩
                     rw [hz] at ho6
                     have HZ := Lib.hid hz
                     clear hz
                     obtain ⟨A6, c6, rfl, hc6⟩ := ho6.slice
                     have hbk6 := hk6.blk HBK5.out (fun e => (hob.out b e.symm).2.1 rfl)
                     have cb6 := blk_cell hbk6 0
                     have fb6 := blk_free hbk6 0
                     simp at cb6
                     have HO6 := Lib.hid ho6; have HK6 := Lib.hid hk6; have HBK6 := Lib.hid hbk6
                     clear ho6 hk6 hbk6))
                all_goals
                  go_wp2_with fail
                  go_meet
                  have kb : Keep (fun k => k = b) w6 w6 := Keep.refl _ _
                  have kS : Keep (fun k => k = b) w6 (w6.setCell ⟨b, 0, none⟩ (.slice A6 z.length c6)) := kb.set (p := ⟨b, 0, none⟩) rfl _
                  have hFb' := hbF.out
                  have hk1 : Keep F w w5 := HKV.out.drew.trans (Keep.old (F := F) HB5.out) (fun _ _ h => h)
                  have hs5 : wv.heap.size ≤ w5.heap.size := HB5.out.size
                  refine ⟨(hk1.trans HK6.out (fun i hi h => ?_)).trans kS (fun i _ h => h ▸ hFb'), ?_⟩
                  · rcases (hob.out i h.symm).1 with h1 | h1
                    · exact h1
                    · omega
                  · rw [HZ.out]
                    have hb7 := blk_set HBK6.out 0 (.slice A6 z.length c6)
                    refine ⟨_, by simpa using hb7, .inl hFb', (HO6.out.bnd.keep kS (fun k h e => ?_)).mono fun k h => ?_⟩
                    · rcases h.1 with h1 | h1 | h1
                      · exact h1.2 e
                      · omega
                      · omega
                    · have h6 := h.2
                      rw [size_setCell]
                      rcases h.1 with ⟨h1 | h1, h2⟩ | h1 | h1
                      · exact ⟨.inl h1, h2⟩
                      · exact ⟨.inr ⟨h1.1, h6⟩, h2⟩
                      · exact ⟨.inr ⟨by omega, h6⟩, by omega⟩
                      · exact ⟨.inr ⟨by omega, h6⟩, by omega⟩
              case rest =>
                obtain ⟨hkc, hnc⟩ := hcut
                have HKC := Lib.hid hkc; have HNC := Lib.hid hnc
                clear hkc hnc
                go_wp2_with fail
                go_roundw
                case rel => exact ⟨k + 1, by omega, by go_num, by rw [HS.out, HP.out]; congr 1; simp; omega, HKC.out, by rw [HS.out, HP.out]; exact HNC.out⟩
                case measure => simp [intOf]; omega
    · obtain rfl : k = ps.length := by omega
      have HKW := Lib.hid hkw; have HN := Lib.hid hn
      clear hkw hn
      rw [List.take_length] at HCUR
      go_wp2_with fail
      go_ret
      exact hR _ _ ⟨by rw [HCUR.out]; rfl, HKW.out, by rw [HCUR.out]; exact HN.out⟩
end Go.Proofs.Ytmbkfhfidjplnaa.Nt
