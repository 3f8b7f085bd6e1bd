/-
  The law parapetlaw5.NetOnce answers true.
  Lengths within the row's own reach.
-/
import Derived.Test.YtmbkfhfidjplnaaNetI
import Derived.Deep.OwnRows
import Derived.Laws.Small
namespace Go.Proofs.Ytmbkfhfidjplnaa.Nt
open Go Go.RowKit Go.Proofs.Ytmbkfhfidjplnaa.Pb

/-- a net of the call's own that shares nothing with the blocks of X -/
def MineX (t : TypeId) (B : Nat) (X : Nat → Prop) (w : World) (b : Nat) (l : List Pk) : Prop := ∃ F, NetAt t w F b l ∧ (∀ a, F a → B ≤ a ∧ a < w.heap.size ∧ ¬ X a)
theorem Mine.apart {t : TypeId} {B b : Nat} {w : World} {l : List Pk} (h : Mine t B w b l) {X : Nat → Prop} (hX : ∀ a, X a → w.heap.size ≤ a) : MineX t B X w b l := by
  obtain ⟨F, h1, h2⟩ := h
  exact ⟨F, h1, fun a ha => ⟨(h2 a ha).1, (h2 a ha).2, fun hx => by have := hX a hx; have := (h2 a ha).2; omega⟩⟩
theorem MineX.mine {t : TypeId} {B b : Nat} {X : Nat → Prop} {w : World} {l : List Pk} (h : MineX t B X w b l) : Mine t B w b l := by
  obtain ⟨F, h1, h2⟩ := h
  exact ⟨F, h1, fun a ha => ⟨(h2 a ha).1, (h2 a ha).2.1⟩⟩
theorem MineX.move {t : TypeId} {B b : Nat} {X : Nat → Prop} {w w' : World} {l : List Pk} (h : MineX t B X w b l) (hk : Keep X w w') : MineX t B X w' b l := by
  obtain ⟨F, h1, h2⟩ := h
  exact ⟨F, h1.keep hk (fun k hk => (h2 k hk).2.2), fun a ha => ⟨(h2 a ha).1, Nat.lt_of_lt_of_le (h2 a ha).2.1 hk.size, (h2 a ha).2.2⟩⟩
theorem MineX.below {t : TypeId} {B b : Nat} {X : Nat → Prop} {w w' : World} {l : List Pk} (h : MineX t B X w b l) (hb : Below w.heap.size w w') : MineX t B X w' b l := by
  obtain ⟨F, h1, h2⟩ := h
  exact ⟨F, h1.below hb, fun a ha => ⟨(h2 a ha).1, Nat.lt_of_lt_of_le (h2 a ha).2.1 hb.size, (h2 a ha).2.2⟩⟩
theorem MineX.deliver {t : TypeId} {B b : Nat} {X : Nat → Prop} {w : World} {l : List Pk} (h : MineX t B X w b l) (k : Int) (hl : l.length ≤ 1000000) (hb : ∀ x ∈ l, x.2.2.length ≤ 140737488351232) (hB : B ≤ w.heap.size) :
    Calls Try.prog 11 #[.pointer (some ⟨b, 0, none⟩), .int .i64 k] w fun e w' => ∃ v ok, e = .returned (.tuple #[v, .bool ok]) ∧ Told w w' (peek l k) v ok ∧ Below B w w' ∧ (∀ a, X a → a < w.heap.size → w'.heap[a]? = w.heap[a]?) ∧ MineX t B X w' b (gone l k) := by
  obtain ⟨F, h1, h2⟩ := h
  refine (deliver_any t w F b l h1 k hl hb).mono ?_
  rintro e w' ⟨v, ok, rfl, ht, hk, hn⟩
  exact ⟨v, ok, rfl, ht, hk.below hB (fun i hi h => by have := (h2 i h).1; omega), fun a ha hlt => hk.block a hlt (fun h => (h2 a h).2.2 ha), F, hn, fun a ha => ⟨(h2 a ha).1, Nat.lt_of_lt_of_le (h2 a ha).2.1 hk.size, (h2 a ha).2.2⟩⟩

def onth (i : Nat) : Pk := (1, 2, [UInt8.ofNat i])
def onths (n : Nat) : List Pk := (List.range n).map onth
theorem onths_len (n : Nat) : (onths n).length = n := by simp [onths]
theorem onths_succ (n : Nat) : onths (n + 1) = onths n ++ [onth n] := by simp [onths, List.range_succ]
theorem put_onth (j : Nat) : put (onths (min j 64)) (onth j) = onths (min (j + 1) 64) := by
  unfold put
  rw [onths_len]
  by_cases h : j < 64
  · rw [if_pos ⟨by omega, by simp [okP, isNode, onth]⟩, show min j 64 = j by omega, show min (j + 1) 64 = j + 1 by omega, onths_succ]
  · rw [if_neg (by omega), show min j 64 = 64 by omega, show min (j + 1) 64 = 64 by omega]

section
variable {P : Program} {ops : Array Oper} {rest : List Oper} {d : Option Tmp} {ty : TypeId} {pos : String} {af : Array Edge} {a : Act} {Q : Exit → Act → World → Prop} {w : World}
theorem stop_min {args : Array Operand} {ts : Array TypeId} (h : Stopped (wpList P ops Q (⟨d, .call ⟨.builtin .min, args, ts⟩, ty, pos, af, none⟩ :: rest) a w)) :
    wpList P ops Q (⟨d, .call ⟨.builtin .min, args, ts⟩, ty, pos, af, none⟩ :: rest) a w := h.out
theorem wp_min {x y : Operand} {p q : Int} {ts : Array TypeId} (hx : a.eval x = .int .i64 p) (hy : a.eval y = .int .i64 q) (h : wpList P ops Q rest (a.put d (.int .i64 (min p q))) w) :
    wpList P ops Q (⟨d, .call ⟨.builtin .min, #[x, y], ts⟩, ty, pos, af, none⟩ :: rest) a w := by
  refine wp_val (exec_builtin (v := .int .i64 (min p q)) (w' := w) ?_) h
  have h1 : (Builtin.min_ ts ty #[.int .i64 p, .int .i64 q]).run P w = .ok (.int .i64 (if q < p then q else p)) w := run_min_int2 ..
  have h2 : (if q < p then q else p) = min p q := by omega
  rw [h2] at h1
  simp [builtin, hx, hy, h1]
end

theorem infoB : (Try.prog.info? 4).map (fun i => (i.zero, i.size, i.bytes)) = some (some (.bool false), 1, 1) := by kernel_rfl

set_option maxRecDepth 20000 in
set_option maxHeartbeats 2000000 in
theorem once_walk (n : Int) (l : List Int) (v : Value) (F : Nat → Prop) (w : World) (hv : View Rp.int w F l v) (hl : l.length ≤ 140737488351232) (hb : ∀ x ∈ l, -9223372036854775808 ≤ x ∧ x ≤ 9223372036854775807) :
    Calls Try.prog 3 #[.int .i64 n, v] w fun e w' => e = .returned (.bool true) ∧ Below w.heap.size w w' := by
  refine calls_gen fun R hR => ?_
  obtain ⟨A, c, rfl, hc, hcell⟩ := hv.open1
  have HC := Lib.hid hcell; have HB := Lib.hid hb
  clear hcell hv hb
  go_enter Try.func3, Try.ntmps3
  refine Or.elim (Classical.em (n < 0)) (fun c1 => ?_) (fun c1 => ?_)
  · go_wp2_with fail
    refine (awake_any w).mono ?_
    rintro e w1 ⟨rfl, hb1⟩
    go_wp2_with fail
    go_ret
    exact hR _ _ ⟨rfl, hb1⟩
  refine Or.elim (Classical.em (100 < n)) (fun c2 => ?_) (fun c2 => ?_)
  · go_wp2_with fail
    refine (awake_any w).mono ?_
    rintro e w1 ⟨rfl, hb1⟩
    go_wp2_with fail
    go_ret
    exact hR _ _ ⟨rfl, hb1⟩
  refine Or.elim (Classical.em (200 < l.length)) (fun c3 => ?_) (fun c3 => ?_)
  · go_wp2_with fail
    refine (awake_any w).mono ?_
    rintro e w1 ⟨rfl, hb1⟩
    go_wp2_with fail
    go_ret
    exact hR _ _ ⟨rfl, hb1⟩
  obtain ⟨n, rfl⟩ := Int.eq_ofNat_of_zero_le (show 0 ≤ n by omega)
  go_wp2_with fail
  have hm0 : Mine 29 w.heap.size (w.alloc (.cells #[.slice none 0 0] 29)) w.heap.size (onths (min 0 64)) :=
    ⟨fun k => k = w.heap.size, ⟨.slice none 0 0, blk_new w _, rfl, Own.nil _ _ _ _⟩, fun a h => by simp; omega⟩
  have HM0 := Lib.hid hm0; clear hm0
  go_loopw [6] (fun i wr => ∃ j : Nat, j ≤ n ∧ i = .int .i64 j ∧ Below w.heap.size w wr ∧ Mine 29 w.heap.size wr w.heap.size (onths (min j 64))) (fun i _ => n - (intOf i).toNat)
  case atStart => exact ⟨0, Nat.zero_le _, rfl, below_new _ _, HM0.out⟩
  case round =>
    obtain ⟨j, hj, rfl, hbr, hnr⟩ := hrel
    have HBR := Lib.hid hbr; have HNR := Lib.hid hnr
    clear hbr hnr
    have hbs := HBR.out.size
    by_cases hlt : j < n
    · have hjl := onths_len (min j 64)
      have hpt := Lib.hid (put_onth j)
      go_wp2_with fail
      refine (send_new _ wr _ _ HNR.out 1 2 (UInt8.ofNat j) j (byte_nat j (by omega)).symm (by omega) hbs).mono ?_
      rintro e w2 ⟨rfl, hb2, hm2⟩
      have hpe : put (onths (min j 64)) (1, 2, [UInt8.ofNat j]) = onths (min (j + 1) 64) := hpt.out
      rw [hpe] at hm2 ⊢
      rw [onths_len, onths_len]
      have HB2 := Lib.hid (HBR.out.trans hb2); have HM2 := Lib.hid hm2
      clear hb2 hm2 hpe hpt
      by_cases h64 : j < 64
      · rw [show (min (j + 1) 64 - min j 64 : Nat) = 1 by omega]
        have hj64 : decide ((j : Int) < 64) = true := decide_eq_true (by omega)
        go_wp2_with fail
        go_roundw
        case rel => exact ⟨j + 1, by omega, by go_num, HB2.out, HM2.out⟩
        case measure => simp [intOf]; omega
      · rw [show (min (j + 1) 64 - min j 64 : Nat) = 0 by omega]
        go_wp2_with fail
        go_roundw
        case rel => exact ⟨j + 1, by omega, by go_num, HB2.out, HM2.out⟩
        case measure => simp [intOf]; omega
    · obtain rfl : j = n := by omega
      have hmk : ∀ w : World, (Instr.makeSlice 34 (.int .i64 100) (.int .i64 100)).run Try.prog w = .ok (.slice (some ⟨w.heap.size, 0, none⟩) 100 100) (w.alloc (.cells (madeCells #[.bool false] 100) 4)) := fun w => run_make_row' (P := Try.prog) 34 4 (.bool false) 1 Try.underlying34 infoB rfl .i64 .i64 100 (by decide) (by decide) w
      obtain ⟨M, hM⟩ : ∃ M, madeCells #[Value.bool false] 100 = M := ⟨_, rfl⟩
      have HMS : Hid (M.size = 100) := Lib.hid (by rw [← hM]; exact size_madeCells _ _)
      have HMA : Hid (∀ i, i < 100 → M[i]? = some (.bool false)) := Lib.hid fun i hi => by
        rw [← hM]; simp [madeCells, hi, Nat.mod_one]
      rw [hM] at hmk
      clear hM
      obtain ⟨lf, hlf⟩ : ∃ lf, min j 64 = lf := ⟨_, rfl⟩
      have HLF := Lib.hid hlf; clear hlf
      go_upto_region 10 with fail
      go_cut [8] (fun u wc => u = .int .i64 (lf : Int) ∧ wc = wr.alloc (.cells M 4))
      case first =>
        clear hj hlt HMS HMA
        go_wp2_with (with_reducible (first | refine stop_min ?_))
        refine ⟨wp_min (p := j) (q := 64) rfl rfl ?_⟩
        go_wp2_with fail
        go_meet
        have hlf := HLF.out
        exact ⟨by congr 1; omega, rfl⟩
      case rest =>
        obtain ⟨rfl, rfl⟩ := hcut
        obtain rfl := HLF.out
        have hR0 : MineX 29 w.heap.size (fun k => k = wr.heap.size) (wr.alloc (.cells M 4)) w.heap.size ((List.range (min j 64)).map onth) := (HNR.out.apart fun a ha => by omega).below (below_new _ _)
        have hgb := blk_new wr (.cells M 4)
        have HBW := Lib.hid (HBR.out.trans ((below_new wr (.cells M 4)).mono (by omega)))
        obtain ⟨g, hg⟩ : ∃ g, wr.heap.size = g := ⟨_, rfl⟩
        obtain ⟨W, hW⟩ : ∃ W, wr.alloc (.cells M 4) = W := ⟨_, rfl⟩
        rw [hW] at hR0 hgb HBW
        rw [hg] at hR0 hgb hbs ⊢
        rw [hW]
        have HR0 := Lib.hid hR0; have HGB := Lib.hid hgb
        clear hR0 hgb hW hg hmk HBR HNR
        go_wp2_with fail
        go_loopw [8, 9, 10, 11, 12] (fun lf i _ _ _ wr => ∃ (R : List Nat) (q : Nat) (M : Array Value), lf = .int .i64 R.length ∧ i = .int .i64 q ∧ q + R.length ≤ 64 ∧ Below w.heap.size w wr ∧ MineX 29 w.heap.size (fun k => k = g) wr w.heap.size (R.map onth) ∧ wr.heap[g]? = some (.cells M 4 (0, 0)) ∧ M.size = 100 ∧ R.Nodup ∧ (∀ r ∈ R, r < 64 ∧ M[r]? = some (.bool false))) (fun lf _ _ _ _ _ => (intOf lf).toNat)
        case atStart => exact ⟨List.range (min j 64), 0, M, by simp, rfl, by simp; omega, HBW.out, HR0.out, HGB.out, HMS.out, List.nodup_range, fun r hr => by rw [List.mem_range] at hr; exact ⟨by omega, HMA.out r (by omega)⟩⟩
        case round =>
          obtain ⟨R, q, M1, rfl, rfl, hqR, hbq, hmq, hgq, hms, hnd, hrr⟩ := hrel
          clear HBW HR0 HGB HMS HMA
          have HBQ := Lib.hid hbq; have HMQ := Lib.hid hmq; have HGQ := Lib.hid hgq; have HMS1 := Lib.hid hms; have HND := Lib.hid hnd; have HRR := Lib.hid hrr
          have hbs2 := hbq.size
          have hgl := blk_lt hgq
          clear hbq hmq hgq hms hnd hrr
          by_cases hpos : 0 < R.length
          · go_upto_if 53 with fail
            go_cut [10] (fun kv wx => ∃ m : Nat, kv = .int .i64 m ∧ m < R.length ∧ wx = wr)
            case first =>
              by_cases hql : q < l.length
              · obtain ⟨b, off, rfl, hbl, hx⟩ := HC.out q hql
                obtain ⟨x, hlx⟩ : ∃ x, l[q]? = some x := ⟨_, List.getElem?_eq_getElem hql⟩
                have hxc := (HBQ.out.cell (p := ⟨b, off + q, none⟩) hbl).trans (hx q x hlx)
                obtain ⟨hx1, hx2⟩ := HB.out x (List.mem_of_getElem? hlx)
                have hbq2 : b < wr.heap.size := by omega
                clear hx hlx
                go_wp2_with fail
                refine (round_any x R.length (by omega) (by omega) wr).mono ?_
                rintro e w' ⟨rfl, rfl⟩
                go_wp2_with fail
                go_meet
                have h1 := Int.emod_nonneg x (show (R.length : Int) ≠ 0 by omega)
                have h2 := Int.emod_lt_of_pos x (show (0 : Int) < R.length by omega)
                exact ⟨(x % (R.length : Int)).toNat, by congr 1; omega, by omega, rfl⟩
              · go_wp2_with fail
                go_meet
                exact ⟨0, rfl, hpos, rfl⟩
            case rest =>
              obtain ⟨m, rfl, hm, hwc⟩ := hcut
              rw [hwc]
              clear hwc wc
              obtain ⟨y, hy⟩ : ∃ y, R[m]? = some y := ⟨_, List.getElem?_eq_getElem hm⟩
              have hymem := List.mem_of_getElem? hy
              obtain ⟨hy64, hyM⟩ := HRR.out y hymem
              have hpk : peek (R.map onth) m = some (onth y) := by
                unfold peek; rw [if_neg (by omega)]
                show (R.map onth)[m]? = _
                rw [List.getElem?_map, hy]; rfl
              have hgn : gone (R.map onth) m = (R.eraseIdx m).map onth := by
                unfold gone; rw [if_neg (by omega)]
                show (R.map onth).take m ++ (R.map onth).drop (m + 1) = _
                rw [List.eraseIdx_eq_take_drop_succ, List.map_append, List.map_take, List.map_drop]
              have hyn : Hid (y ∉ R.eraseIdx m) := Lib.hid (by
                intro hmem
                have := HND.out
                obtain ⟨i, hi, hie⟩ := List.mem_iff_getElem.1 hmem
                rw [List.getElem_eraseIdx] at hie
                rw [List.getElem?_eq_some_iff] at hy
                obtain ⟨hm', hy⟩ := hy
                have hel : (R.eraseIdx m).length = R.length - 1 := by rw [List.length_eraseIdx_of_lt hm]
                split at hie
                · have := (List.getElem_inj this).1 (hie.trans hy.symm); omega
                · have := (List.getElem_inj this).1 (hie.trans hy.symm); omega)
              have hel : (R.eraseIdx m).length = R.length - 1 := List.length_eraseIdx_of_lt hm
              have hsm : Hid (∀ x ∈ R.map onth, x.2.2.length ≤ 140737488351232) := Lib.hid fun x hx => by
                obtain ⟨i, _, rfl⟩ := List.mem_map.1 hx
                simp [onth]
              have HPK := Lib.hid hpk; have HGN := Lib.hid hgn
              clear hpk hgn hy hymem
              go_wp2_with fail
              refine (HMQ.out.deliver m (by simp; omega) hsm.out hbs2).mono ?_
              rintro e w3 ⟨u, ok, rfl, ⟨hok, u2, rfl, hu⟩, hb3, hX3, hm3⟩
              rw [HPK.out] at hok hu ⊢
              rw [HGN.out] at hm3
              simp only [Option.getD_some, Option.isSome_some] at hok hu ⊢
              subst hok
              obtain ⟨g2, cap, rfl, hcap, hg2, hglt, hcell⟩ := Own.byte hu
              rw [byte_nat y (by omega)] at hcell
              have hg3 := (hX3 g rfl hgl).trans HGQ.out
              have hs3 := hb3.size
              have hbn := below_new w3 (.cells #[.int .i64 1, .int .i64 2, .slice (some ⟨g2, 0, none⟩) 1 cap] 33)
              have HM3 := Lib.hid hm3; have HB3 := Lib.hid (HBQ.out.trans hb3); have HG3 := Lib.hid hg3
              have hg4 := blk_past (o' := .cells #[.int .i64 1, .int .i64 2, .slice (some ⟨g2, 0, none⟩) 1 cap] 33) hg3
              have hcm := blk_cell hg4 y
              have hfm := blk_free hg4 y
              rw [hyM] at hcm
              have hgl4 := blk_lt hg3
              clear hu hb3 hm3 hbn hX3 hg3 hg4
              unfold onth pv
              have hg2g : g2 ≠ g := by omega
              go_wp2_with fail
              have ks : Keep (fun k => k = g) w3 (w3.setCell ⟨g, y, none⟩ (.bool true)) := (Keep.refl (fun k => k = g) _).set (p := ⟨g, y, none⟩) rfl (.bool true)
              have hsz : (w3.setCell ⟨g, y, none⟩ (.bool true)).heap.size = w3.heap.size := size_setCell _ _ _
              go_roundw
              case rel =>
                refine ⟨R.eraseIdx m, q + 1, M1.setIfInBounds y (.bool true), by rw [hel]; congr 1; omega, by go_num, by omega, (HB3.out.trans (ks.below (by omega) fun i hi e => by omega)).trans ((below_new _ _).mono (by omega)), (HM3.out.move ks).below (below_new _ _), blk_past (blk_set HG3.out y (.bool true)), by simpa using HMS1.out, HND.out.sublist (List.eraseIdx_sublist _ _), fun r hr => ⟨(HRR.out r (List.mem_of_mem_eraseIdx hr)).1, ?_⟩⟩
                rw [Array.getElem?_setIfInBounds_ne (fun e => hyn.out (by rw [e]; exact hr))]; exact (HRR.out r (List.mem_of_mem_eraseIdx hr)).2
              case measure => simp [intOf]; omega
          · obtain rfl : R = [] := List.eq_nil_of_length_eq_zero (by omega)
            go_wp2_with fail
            refine HMQ.out.mine.len.mono ?_
            rintro e w' ⟨rfl, rfl⟩
            go_wp2_with fail
            refine (awake_any _).mono ?_
            rintro e w4 ⟨rfl, hb4⟩
            go_wp2_with fail
            go_ret
            exact hR _ _ ⟨rfl, HBQ.out.trans (hb4.mono hbs2)⟩
theorem once_row {w : World} (n : Int) (_ : -9223372036854775808 ≤ n) (_ : n ≤ 9223372036854775807) (l : List Int) (v : Value) (F : Nat → Prop) (hb : l.length * Try.prog.bytesOf 3 ≤ 140737488351232 ∧ ∀ x ∈ l, -9223372036854775808 ≤ x ∧ x ≤ 9223372036854775807) (hv : View Rp.int w F l v) :
    Calls Try.prog 3 #[.int .i64 n, v] w fun e w' => e = .returned (.bool true) ∧ Below w.heap.size w w' :=
  once_walk n l v F w hv (by have := hb.1; rw [show Try.prog.bytesOf 3 = 8 by kernel_rfl] at this; omega) hb.2
end Go.Proofs.Ytmbkfhfidjplnaa.Nt
