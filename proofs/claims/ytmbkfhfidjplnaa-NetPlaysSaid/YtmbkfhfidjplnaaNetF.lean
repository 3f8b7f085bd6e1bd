/-
  Contracts: Net.Twice, parapetalike.Bytes, Round, the law's alike.
  Lengths within the rows' own reach.
-/
import Derived.Test.YtmbkfhfidjplnaaNetE
namespace Go.Proofs.Ytmbkfhfidjplnaa.Nt
open Go Go.RowKit Go.Proofs.Ytmbkfhfidjplnaa.Pb

/-- a packet once more -/
def twice (l : List Pk) (k : Int) : List Pk := match peek l k with
  | none => l
  | some p => put l p

theorem view_one {w : World} {G : Nat → Prop} {g : Nat} {x : Pk} {u : Value} {t : TypeId} (hg : w.heap[g]? = some (.cells #[.int .i64 x.1, .int .i64 x.2.1, u] t (0, 0))) (hv : View Rp.u8 w G x.2.2 u) (hG : G g) : View pkt w G [x] (.slice (some ⟨g, 0, none⟩) 1 1) := by
  refine ⟨_, 1, rfl, Nat.le_refl _, by simp, .inr ⟨g, 0, [.int .i64 x.1, .int .i64 x.2.1, u], rfl, hG, blk_lt hg, fun j y hj => ?_, Elems.one ⟨[_], _, rfl, rfl, [_], _, rfl, rfl, _, rfl, hv⟩⟩⟩
  rw [Nat.zero_add, blk_cell hg]; simpa using hj

set_option maxHeartbeats 1000000 in
theorem twice_any (t : TypeId) (w : World) (F : Nat → Prop) (b : Nat) (l : List Pk) (h : NetAt t w F b l) (k : Int) (hl : l.length ≤ 1000000) (hb : ∀ x ∈ l, x.2.2.length ≤ 140737488351232) :
    Calls Try.prog 14 #[.pointer (some ⟨b, 0, none⟩), .int .i64 k] w fun e w' => e = .returned (.bool (decide ((twice l k).length = l.length + 1))) ∧ Keep F w w' ∧ NetAt t w' (fun k => F k ∨ (w.heap.size ≤ k ∧ k < w'.heap.size)) b (twice l k) := by
  refine calls_gen fun R hR => ?_
  have H := Lib.hid h; have HB := Lib.hid hb
  have hlt : b < w.heap.size := by obtain ⟨_, hb, _⟩ := h; exact blk_lt hb
  clear h hb
  go_enter Try.func14, Try.ntmps14
  go_wp2_with fail
  refine (peek_any t w F b l H.out k HB.out).mono ?_
  rintro e w3 ⟨u, ok, rfl, ⟨hok, u2, rfl, hu⟩, hb3⟩
  obtain ⟨A', c2, rfl, hc2'⟩ := hu.slice
  obtain ⟨x, hx⟩ : ∃ x, (peek l k).getD (0, 0, []) = x := ⟨_, rfl⟩
  rw [hx] at hu hc2' ⊢
  have hs3 := hb3.size
  cases hp : peek l k with
  | none =>
    rw [hp] at hok
    have HT : Hid (twice l k = l) := Lib.hid (by unfold twice; rw [hp])
    have HB3 := Lib.hid hb3
    cases hok
    clear hp hx hu hb3
    unfold pv
    rw [show (none : Option Pk).isSome = false from rfl]
    go_wp2_with fail
    go_ret
    have hbw := HB3.out.trans ((below_new w3 (.cells #[.int .i64 x.1, .int .i64 x.2.1, .slice A' x.2.2.length c2] 33)).mono hs3)
    refine hR _ _ ⟨by rw [HT.out, decide_eq_false (by omega)]; rfl, Keep.old hbw, by rw [HT.out]; exact (H.out.below hbw).mono fun _ h => .inl h⟩
  | some y =>
    rw [hp] at hok hx
    have HT : Hid (twice l k = put l y) := Lib.hid (by unfold twice; rw [hp])
    have HB3 := Lib.hid hb3
    have HXY : Hid (y = x) := Lib.hid hx
    have hyl : y.2.2.length ≤ 140737488351232 := by
      have hm : y ∈ l := by
        unfold peek at hp; split at hp
        · cases hp
        · exact List.mem_of_getElem? hp
      exact HB.out y hm
    rw [HXY.out] at hyl
    have HU := Lib.hid hu
    cases hok
    clear hp hx hu hb3
    unfold pv
    rw [show (some y : Option Pk).isSome = true from rfl]
    go_wp2_with fail
    obtain ⟨w5, hw5⟩ : ∃ w5, (w3.alloc (.cells #[.int .i64 x.1, .int .i64 x.2.1, .slice A' x.2.2.length c2] 33)).alloc (.cells #[.int .i64 x.1, .int .i64 x.2.1, .slice A' x.2.2.length c2] 33) = w5 := ⟨_, rfl⟩
    have hn1 := below_new w3 (.cells #[.int .i64 x.1, .int .i64 x.2.1, .slice A' x.2.2.length c2] 33)
    have hn2 := below_new (w3.alloc (.cells #[.int .i64 x.1, .int .i64 x.2.1, .slice A' x.2.2.length c2] 33)) (.cells #[.int .i64 x.1, .int .i64 x.2.1, .slice A' x.2.2.length c2] 33)
    have hg := blk_new (w3.alloc (.cells #[.int .i64 x.1, .int .i64 x.2.1, .slice A' x.2.2.length c2] 33)) (.cells #[.int .i64 x.1, .int .i64 x.2.1, .slice A' x.2.2.length c2] 33)
    have hz1 : (w3.alloc (.cells #[.int .i64 x.1, .int .i64 x.2.1, .slice A' x.2.2.length c2] 33)).heap.size = w3.heap.size + 1 := by simp
    rw [hz1, hw5] at hg
    rw [hw5] at hn2 ⊢
    have hn := hn1.trans (hn2.mono (by omega))
    have hbw := HB3.out.trans (hn.mono hs3)
    have hu5 := (HU.out.below hn).view
    have hs5 := hn2.size
    clear hw5 hn1 hn2 hz1
    refine (send_any t w5 (fun k => F k ∧ k < w.heap.size) (fun k => w.heap.size ≤ k) b l [x] _ (H.out.bnd.move fun k hk _ => hbw.block k hk.2) (view_one hg hu5 (by show w.heap.size ≤ w3.heap.size + 1; omega)) (fun k hk h => by have := hk.2; omega) hl (by simp) (fun z hz => by simp at hz; rw [hz]; exact hyl)).mono ?_
    rintro e w6 ⟨rfl, hk6, hn6⟩
    have hse : sends l [x] = put l x := rfl
    rw [hse] at hn6 ⊢
    have HK6 := Lib.hid ((Keep.old (F := F) hbw).trans hk6 (fun i _ h => h.1))
    have HN6 := Lib.hid hn6
    have h56 := hk6.size
    have hw5 := hbw.size
    have hpl := put_len l x
    clear hk6 hn6 hbw hu5 hn hg
    obtain ⟨n, hn⟩ : ∃ n, (put l x).length = n := ⟨_, rfl⟩
    rw [hn] at hpl ⊢
    have HL := Lib.hid hn
    clear hn
    have hpl2 : n ≤ l.length + 1 := by rw [← HL.out]; unfold put; split <;> simp
    rw [HXY.out] at HT
    have HFIN : Hid (NetAt t w6 (fun k => F k ∨ (w.heap.size ≤ k ∧ k < w6.heap.size)) b (twice l k)) := Lib.hid (by
      rw [HT.out]; exact HN6.out.mono fun k h => h.imp (fun h => h.1) fun h => ⟨by omega, h.2⟩)
    clear HN6
    by_cases hc : n = l.length + 1
    · subst hc
      have h1 : (((l.length + 1 - l.length : Nat) : Int) == 1) = true := by rw [beq_iff_eq]; omega
      go_wp2_with fail
      go_ret
      refine hR _ _ ⟨?_, HK6.out, HFIN.out⟩
      rw [HT.out, HL.out, decide_eq_true rfl]; rfl
    · obtain rfl : n = l.length := by omega
      have h1 : (((l.length - l.length : Nat) : Int) == 1) = false := by rw [beq_eq_false_iff_ne]; omega
      go_wp2_with fail
      go_ret
      refine hR _ _ ⟨?_, HK6.out, HFIN.out⟩
      rw [HT.out, HL.out, decide_eq_false hc]; rfl
theorem twice_nil (w : World) (k : Int) :
    Calls Try.prog 14 #[.pointer none, .int .i64 k] w fun e w' => e = .returned (.bool false) ∧ Below w.heap.size w w' := by
  refine calls_gen fun R hR => ?_
  go_enter Try.func14, Try.ntmps14
  go_wp2_with fail
  refine (peek_nil w k).mono ?_
  rintro e w3 ⟨v, rfl, ⟨hok, u2, rfl, hu⟩, hb3⟩
  obtain ⟨A', c2, rfl, hc2'⟩ := hu.slice
  have HB := Lib.hid hb3
  clear hok hu hb3
  unfold pv
  simp only [Option.getD_none, List.length_nil] at hc2' ⊢
  go_wp2_with fail
  go_ret
  exact hR _ _ ⟨rfl, HB.out.trans ((below_new w3 _).mono HB.out.size)⟩

/-! ### small ones -/
theorem round_eq (k n : Int) (hn : 0 < n) : -n < k.tmod n ∧ k.tmod n < n ∧ (k.tmod n < 0 → k.tmod n + n = k % n) ∧ (¬ k.tmod n < 0 → k.tmod n = k % n) := by
  have h1 : k.tmod n < n := Int.tmod_lt_of_pos k hn
  have h2 : -n < k.tmod n := by
    have := Int.tmod_lt_of_pos (-k) hn
    rw [Int.neg_tmod] at this; omega
  have h3 : k % n = k.tmod n % n := by
    have := Int.mul_tdiv_add_tmod k n
    conv => lhs; rw [← this, Int.add_comm]
    exact Int.add_mul_emod_self_left _ _ _
  refine ⟨h2, h1, fun h => ?_, fun h => ?_⟩
  · rw [h3, ← Int.add_emod_right, Int.emod_eq_of_lt (by omega) (by omega)]
  · rw [h3, Int.emod_eq_of_lt (by omega) h1]
theorem round_any (k n : Int) (hn : 0 < n) (hb : n ≤ 1000000) (w : World) :
    Calls Try.prog 10 #[.int .i64 k, .int .i64 n] w fun e w' => e = .returned (.int .i64 (k % n)) ∧ w = w' := by
  refine calls_gen fun R hR => ?_
  obtain ⟨h2, h3, h4, h5⟩ := round_eq k n hn
  have H4 := Lib.hid h4; have H5 := Lib.hid h5
  clear h4 h5
  by_cases ht : k.tmod n < 0
  · have h6 := Lib.hid (H4.out ht)
    go_enter Try.func10, Try.ntmps10
    go_wp2_with fail
    go_ret
    refine hR _ _ ⟨?_, rfl⟩
    rw [← h6.out]; rfl
  · have h6 := Lib.hid (H5.out ht)
    go_enter Try.func10, Try.ntmps10
    go_wp2_with fail
    go_ret
    refine hR _ _ ⟨?_, rfl⟩
    rw [← h6.out]; rfl

theorem lt_get {α : Type} {l : List α} {k : Nat} (h : k < l.length) : l[k]? = some l[k] := List.getElem?_eq_getElem h
set_option maxHeartbeats 1000000 in
theorem bytes_any (l m : List UInt8) (v u : Value) (F G : Nat → Prop) (w : World) (hv : View Rp.u8 w F l v) (hu : View Rp.u8 w G m u) (hl : l.length ≤ 140737488351232) (hm : m.length ≤ 140737488351232) :
    Calls Try.prog 24 #[v, u] w fun e w' => e = .returned (.bool (l == m)) ∧ Below w.heap.size w w' := by
  refine calls_gen fun R hR => ?_
  obtain ⟨A, c, rfl, hc, hcell⟩ := hv.open1
  obtain ⟨A', c', rfl, hc', hcell'⟩ := hu.open1
  clear hv hu
  have HC := Lib.hid hcell; clear hcell
  have HC' := Lib.hid hcell'; clear hcell'
  by_cases hne : l.length = m.length
  · have h1 : ((l.length : Int) != (m.length : Int)) = false := by rw [bne_eq_false_iff_eq]; omega
    have h1' : (l.length : Int) = (m.length : Int) := by omega
    have HN := Lib.hid hne; clear hne
    go_enter Try.func24, Try.ntmps24
    go_wp2_with fail
    clear h1
    go_loopw [5] (fun i wr => ∃ k n : Nat, k ≤ l.length ∧ i = .int .i64 k ∧ wr = w.drewN n ∧ Hid (∀ j, j < k → l[j]? = m[j]?)) (fun i _ => l.length - (intOf i).toNat)
    case atStart => exact ⟨0, 0, Nat.zero_le _, rfl, rfl, fun _ h => by omega⟩
    case round =>
      obtain ⟨k, n, hk, rfl, rfl, hall⟩ := hrel
      by_cases hlt : k < l.length
      · obtain ⟨b, off, rfl, hbl, hce⟩ := HC.out k hlt
        obtain ⟨b', off', rfl, hbl', hce'⟩ := HC'.out k (by omega)
        have hlt' : k < m.length := by omega
        obtain ⟨x, hx⟩ : ∃ x, l[k]? = some x := ⟨_, lt_get hlt⟩
        obtain ⟨y, hy⟩ : ∃ y, m[k]? = some y := ⟨_, lt_get hlt'⟩
        have hck := hce k x hx
        have hck' := hce' k y hy
        unfold u8v at hck hck'
        clear hce hce'
        have HX := Lib.hid hx; clear hx
        have HY := Lib.hid hy; clear hy
        by_cases hxy : x = y
        · subst hxy
          go_wp2_with fail
          go_quiet (fail)
          go_wp2_with fail
          go_roundw
          case rel =>
            refine ⟨k + 1, _, by omega, by go_num, rfl, fun j hj => ?_⟩
            by_cases hjk : j = k
            · subst hjk; rw [HX.out, HY.out]
            · exact hall.out j (by omega)
          case measure => simp [intOf]; omega
        · have hxn : ¬ (x.toNat : Int) = (y.toNat : Int) := by rw [Int.natCast_inj, UInt8.toNat_inj]; exact hxy
          go_wp2_with fail
          go_quiet (fail)
          go_wp2_with fail
          go_ret
          refine hR _ _ ⟨ret_bool ?_, Below.drewN (Below.drewN (Below.refl _ _) _) _⟩
          symm
          rw [beq_eq_false_iff_ne]
          rintro rfl
          have := HX.out; rw [HY.out] at this; cases this
          exact hxy rfl
      · go_wp2_with fail
        go_ret
        refine hR _ _ ⟨ret_bool ?_, Below.drewN (Below.refl _ _) _⟩
        symm
        rw [beq_iff_eq]
        have hn := HN.out
        apply List.ext_getElem?
        intro j
        by_cases hj : j < k
        · exact hall.out j hj
        · rw [List.getElem?_eq_none (by omega), List.getElem?_eq_none (by omega)]
  · have h1 : ¬ (l.length : Int) = (m.length : Int) := by omega
    have hlm : Hid ((l == m) = false) := Lib.hid (by rw [beq_eq_false_iff_ne]; rintro rfl; exact hne rfl)
    go_enter Try.func24, Try.ntmps24
    go_wp2_with fail
    go_ret
    exact hR _ _ ⟨by rw [hlm.out]; rfl, Below.refl _ _⟩

set_option maxHeartbeats 1000000 in
/-- two packets, alike -/
theorem alike_any (p q : Pk) (v u : Value) (F G : Nat → Prop) (w : World) (hv : View Rp.u8 w F p.2.2 v) (hu : View Rp.u8 w G q.2.2 u) (hl : p.2.2.length ≤ 140737488351232) (hm : q.2.2.length ≤ 140737488351232) :
    Calls Try.prog 19 #[pv p v, pv q u] w fun e w' => e = .returned (.bool (decide (p = q))) ∧ Below w.heap.size w w' := by
  refine calls_gen fun R hR => ?_
  have HV := Lib.hid hv; have HU := Lib.hid hu
  obtain ⟨A, c, rfl, hc, _⟩ := hv
  obtain ⟨A', c', rfl, hc', _⟩ := hu
  unfold pv
  have hn1 := below_new w (.cells #[.int .i64 p.1, .int .i64 p.2.1, .slice A p.2.2.length c] 33)
  have hn2 := below_new (w.alloc (.cells #[.int .i64 p.1, .int .i64 p.2.1, .slice A p.2.2.length c] 33)) (.cells #[.int .i64 q.1, .int .i64 q.2.1, .slice A' q.2.2.length c'] 33)
  have HB := Lib.hid (hn1.trans (hn2.mono (by simp)))
  clear hn1 hn2
  by_cases h1 : p.1 = q.1
  · have e1 : (p.1 == q.1) = true := by simpa using h1
    by_cases h2 : p.2.1 = q.2.1
    · have e2 : (p.2.1 == q.2.1) = true := by simpa using h2
      have H12 : Hid ((p.2.2 == q.2.2) = decide (p = q)) := Lib.hid (by
        obtain ⟨a, b, l⟩ := p
        obtain ⟨a', b', l'⟩ := q
        simp only at h1 h2
        subst h1 h2
        rw [Bool.eq_iff_iff]; simp)
      clear h1 h2
      go_enter Try.func19, Try.ntmps19
      go_wp2_with fail
      refine (bytes_any p.2.2 q.2.2 _ _ _ _ _ (HV.out.below HB.out) (HU.out.below HB.out) hl hm).mono ?_
      rintro e w3 ⟨rfl, hb3⟩
      rw [H12.out]
      have hbw := Lib.hid (HB.out.trans (hb3.mono HB.out.size))
      clear hb3
      go_wp2_with fail
      go_ret
      exact hR _ _ ⟨rfl, hbw.out⟩
    · have e2 : (p.2.1 == q.2.1) = false := by simpa using h2
      have hd : Hid (decide (p = q) = false) := Lib.hid (decide_eq_false fun e => h2 (by rw [e]))
      clear h1 h2
      go_enter Try.func19, Try.ntmps19
      go_wp2_with fail
      go_ret
      exact hR _ _ ⟨by rw [hd.out]; rfl, HB.out⟩
  · have e1 : (p.1 == q.1) = false := by simpa using h1
    have hd : Hid (decide (p = q) = false) := Lib.hid (decide_eq_false fun e => h1 (by rw [e]))
    clear h1
    go_enter Try.func19, Try.ntmps19
    go_wp2_with fail
    go_ret
    exact hR _ _ ⟨by rw [hd.out]; rfl, HB.out⟩
end Go.Proofs.Ytmbkfhfidjplnaa.Nt
