/-
  A parser in memory; contract of the reader of lines.
  Lengths within the rows' own reach.
-/
import Derived.Test.YtaihjnicondifaaDoorHtA
namespace Go.Proofs.YtaihjnicondifaaDoor.Asc
open Go Go.RowKit Go.Proofs.YtaihjnicondifaaDoor.Pb

def pcells (p : PS) (L F B : Value) : List Value :=
  [L, .bool p.cr, .int .i64 p.head, .int .i64 p.state, .string (ofL p.meth), .string (ofL p.path), F, .string ⟨#[]⟩, .bool false, .int .u8 p.digit.toNat, .int .i64 p.left, B, .int .i64 p.sizes, .bool p.over]

structure PIn (w : World) (S : Nat → Prop) (b : Nat) (p : PS) (L F B : Value) : Prop where
  blk : w.heap[b]? = some (.cells (pcells p L F B).toArray 33 (0, 0))
  line : Own Rp.u8 5 w (fun k => L.ownBlock = some k) p.line L
  flds : Own fld 71 w (fun k => F.ownBlock = some k) p.flds F
  body : Own Rp.u8 5 w (fun k => B.ownBlock = some k) p.body B
  inL : ∀ k, L.ownBlock = some k → S k
  inF : ∀ k, F.ownBlock = some k → S k
  inB : ∀ k, B.ownBlock = some k → S k
  out : ¬ S b
  lf : ∀ k, L.ownBlock = some k → F.ownBlock ≠ some k
  lb : ∀ k, L.ownBlock = some k → B.ownBlock ≠ some k
  fb : ∀ k, F.ownBlock = some k → B.ownBlock ≠ some k
/-- a parser lies at b; its rows lie in blocks of S -/
def PAt (w : World) (S : Nat → Prop) (b : Nat) (p : PS) : Prop := ∃ L F B, PIn w S b p L F B

theorem own_lt {α : Type} {d : Rp α} {e : TypeId} {w : World} {F : Nat → Prop} {xs : List α} {v : Value} (h : Own d e w F xs v) {k : Nat} (hk : v.ownBlock = some k) : k < w.heap.size := by
  obtain ⟨cells, h1, _⟩ := h
  exact (h1.lt k hk).2

theorem PIn.newL {w w' : World} {S : Nat → Prop} {b : Nat} {p p' : PS} {L L' F B : Value} (h : PIn w S b p L F B) (hk : Keep (fun k => k = b ∨ L.ownBlock = some k) w w') (hb : w'.heap[b]? = some (.cells (pcells p' L' F B).toArray 33 (0, 0)))
    (hl : Own Rp.u8 5 w' (fun k => L'.ownBlock = some k) p'.line L') (hL : ∀ k, L'.ownBlock = some k → L.ownBlock = some k ∨ w.heap.size ≤ k) (e1 : p'.flds = p.flds) (e2 : p'.body = p.body) :
    PIn w' (fun k => S k ∨ w.heap.size ≤ k) b p' L' F B := by
  have hlt := blk_lt h.blk
  refine ⟨hb, hl, e1 ▸ h.flds.keep hk fun k hF hG => ?_, e2 ▸ h.body.keep hk fun k hF hG => ?_, fun k hk' => ?_, fun k hk' => .inl (h.inF k hk'), fun k hk' => .inl (h.inB k hk'), ?_, fun k hk' hF => ?_, fun k hk' hF => ?_, h.fb⟩
  · rcases hG with rfl | hG
    · exact h.out (h.inF _ hF)
    · exact h.lf k hG hF
  · rcases hG with rfl | hG
    · exact h.out (h.inB _ hF)
    · exact h.lb k hG hF
  · exact (hL k hk').imp (h.inL k) id
  · rintro (h1 | h1)
    · exact h.out h1
    · omega
  · rcases hL k hk' with h1 | h1
    · exact h.lf k h1 hF
    · have := own_lt h.flds hF; omega
  · rcases hL k hk' with h1 | h1
    · exact h.lb k h1 hF
    · have := own_lt h.body hF; omega

theorem PIn.newF {w w' : World} {S : Nat → Prop} {b : Nat} {p p' : PS} {L F F' B : Value} (h : PIn w S b p L F B) (hk : Keep (fun k => k = b ∨ F.ownBlock = some k) w w') (hb : w'.heap[b]? = some (.cells (pcells p' L F' B).toArray 33 (0, 0)))
    (hl : Own fld 71 w' (fun k => F'.ownBlock = some k) p'.flds F') (hL : ∀ k, F'.ownBlock = some k → F.ownBlock = some k ∨ w.heap.size ≤ k) (e1 : p'.line = p.line) (e2 : p'.body = p.body) :
    PIn w' (fun k => S k ∨ w.heap.size ≤ k) b p' L F' B := by
  have hlt := blk_lt h.blk
  refine ⟨hb, e1 ▸ h.line.keep hk fun k hF hG => ?_, hl, e2 ▸ h.body.keep hk fun k hF hG => ?_, fun k hk' => .inl (h.inL k hk'), fun k hk' => ?_, fun k hk' => .inl (h.inB k hk'), ?_, fun k hk' hF => ?_, h.lb, fun k hk' hF => ?_⟩
  · rcases hG with rfl | hG
    · exact h.out (h.inL _ hF)
    · exact h.lf k hF hG
  · rcases hG with rfl | hG
    · exact h.out (h.inB _ hF)
    · exact h.fb k hG hF
  · exact (hL k hk').imp (h.inF k) id
  · rintro (h1 | h1)
    · exact h.out h1
    · omega
  · rcases hL k hF with h1 | h1
    · exact h.lf k hk' h1
    · have := own_lt h.line hk'; omega
  · rcases hL k hk' with h1 | h1
    · exact h.fb k h1 hF
    · have := own_lt h.body hF; omega

theorem PIn.newB {w w' : World} {S : Nat → Prop} {b : Nat} {p p' : PS} {L F B B' : Value} (h : PIn w S b p L F B) (hk : Keep (fun k => k = b ∨ B.ownBlock = some k) w w') (hb : w'.heap[b]? = some (.cells (pcells p' L F B').toArray 33 (0, 0)))
    (hl : Own Rp.u8 5 w' (fun k => B'.ownBlock = some k) p'.body B') (hL : ∀ k, B'.ownBlock = some k → B.ownBlock = some k ∨ w.heap.size ≤ k) (e1 : p'.line = p.line) (e2 : p'.flds = p.flds) :
    PIn w' (fun k => S k ∨ w.heap.size ≤ k) b p' L F B' := by
  have hlt := blk_lt h.blk
  refine ⟨hb, e1 ▸ h.line.keep hk fun k hF hG => ?_, e2 ▸ h.flds.keep hk fun k hF hG => ?_, hl, fun k hk' => .inl (h.inL k hk'), fun k hk' => .inl (h.inF k hk'), fun k hk' => ?_, ?_, h.lf, fun k hk' hF => ?_, fun k hk' hF => ?_⟩
  · rcases hG with rfl | hG
    · exact h.out (h.inL _ hF)
    · exact h.lb k hF hG
  · rcases hG with rfl | hG
    · exact h.out (h.inF _ hF)
    · exact h.fb k hF hG
  · exact (hL k hk').imp (h.inB k) id
  · rintro (h1 | h1)
    · exact h.out h1
    · omega
  · rcases hL k hF with h1 | h1
    · exact h.lb k hk' h1
    · have := own_lt h.line hk'; omega
  · rcases hL k hF with h1 | h1
    · exact h.fb k hk' h1
    · have := own_lt h.flds hk'; omega

/-- scalars alone -/
theorem PIn.scal {w w' : World} {S : Nat → Prop} {b : Nat} {p p' : PS} {L F B : Value} (h : PIn w S b p L F B) (hk : Keep (fun k => k = b) w w') (hb : w'.heap[b]? = some (.cells (pcells p' L F B).toArray 33 (0, 0)))
    (e0 : p'.line = p.line) (e1 : p'.flds = p.flds) (e2 : p'.body = p.body) : PIn w' (fun k => S k ∨ w.heap.size ≤ k) b p' L F B := by
  refine h.newL (hk.mono fun _ _ h => .inl h) hb ?_ (fun _ h => .inl h) e1 e2
  rw [e0]
  exact h.line.keep hk fun k hF hG => h.out (hG ▸ h.inL k hF)
theorem PIn.mono {w : World} {S S' : Nat → Prop} {b : Nat} {p : PS} {L F B : Value} (h : PIn w S b p L F B) (hS : ∀ k, k < w.heap.size → S k → S' k) (ho : ¬ S' b) : PIn w S' b p L F B :=
  ⟨h.blk, h.line, h.flds, h.body, fun k hk => hS k (own_lt h.line hk) (h.inL k hk), fun k hk => hS k (own_lt h.flds hk) (h.inF k hk), fun k hk => hS k (own_lt h.body hk) (h.inB k hk), ho, h.lf, h.lb, h.fb⟩
theorem PIn.keep {w w' : World} {S G : Nat → Prop} {b : Nat} {p : PS} {L F B : Value} (h : PIn w S b p L F B) (hk : Keep G w w') (hG : ∀ k, k < w.heap.size → S k ∨ k = b → ¬ G k) : PIn w' S b p L F B :=
  ⟨hk.blk h.blk (hG b (blk_lt h.blk) (.inr rfl)),
   h.line.move fun k hF hl => hk.block k hl (hG k hl (.inl (h.inL k hF))),
   h.flds.move fun k hF hl => hk.block k hl (hG k hl (.inl (h.inF k hF))),
   h.body.move fun k hF hl => hk.block k hl (hG k hl (.inl (h.inB k hF))), h.inL, h.inF, h.inB, h.out, h.lf, h.lb, h.fb⟩
theorem PIn.below {w w' : World} {S : Nat → Prop} {b : Nat} {p : PS} {L F B : Value} (h : PIn w S b p L F B) (hk : Below w.heap.size w w') : PIn w' S b p L F B :=
  h.keep (G := fun k => w.heap.size ≤ k) (Keep.of_below hk) fun k hl _ => by omega

set_option maxHeartbeats 1000000 in
set_option maxRecDepth 20000 in
/-- the reader of lines -/
theorem read_any (w : World) (S : Nat → Prop) (b : Nat) (p : PS) (c : UInt8) (h : PAt w S b p) (hh : 0 ≤ p.head ∧ p.head ≤ 1000000) (hl : p.line.length ≤ 1000000) :
    Calls Tryd.prog 27 #[.pointer (some ⟨b, 0, none⟩), .int .u8 c.toNat] w fun e w' => e = .returned (.tuple #[.string (ofL (readN p c).line), .bool (readN p c).ended, .int .i64 (readN p c).st]) ∧ PAt w' (fun k => S k ∨ w.heap.size ≤ k) b (readN p c).ps ∧ Keep (fun k => S k ∨ k = b) w w' := by
  refine calls_gen fun R hR => ?_
  obtain ⟨L, F, B, h⟩ := h
  obtain ⟨A, n, rfl, hn⟩ := h.line.slice
  have hlt := blk_lt h.blk
  have c0 := blk_cell h.blk 0
  have c1 := blk_cell h.blk 1
  have c2 := blk_cell h.blk 2
  have f0 := blk_free h.blk 0
  have f1 := blk_free h.blk 1
  have f2 := blk_free h.blk 2
  simp only [pcells, List.getElem?_toArray, List.getElem?_cons_zero, List.getElem?_cons_succ] at c0 c1 c2
  have HO := Lib.hid h.line
  have H := Lib.hid h
  clear h
  have KH : ∀ v, Keep (fun k => k = b) w (w.setCell ⟨b, 2, none⟩ v) := fun v => (Keep.refl (fun k => k = b) w).set (p := ⟨b, 2, none⟩) rfl v
  have HK := Lib.hid KH
  have BH : ∀ v, (w.setCell ⟨b, 2, none⟩ v).heap[b]? = _ := fun v => blk_set H.out.blk 2 v
  have HB := Lib.hid BH
  clear KH BH
  go_enter Tryd.func27, Tryd.ntmps27
  by_cases h1 : p.head + 1 > 65536
  · have hr : Hid (readN p c = ⟨{ p with head := p.head + 1 }, [], false, 431⟩) := Lib.hid (by unfold readN; rw [if_pos h1])
    rw [hr.out] at hR
    clear hr
    go_wp2_with (with_reducible (first | refine stop_append ?_ | refine stop_convert ?_))
    exact bodyPost_ret (v := .tuple #[.string ⟨#[]⟩, .bool false, .int .i64 431]) (by simp [results, Tryd.results27, go_sem]) rfl (hR _ _ ⟨rfl, ⟨_, _, _, H.out.scal (HK.out _) (HB.out _) rfl rfl rfl⟩, (HK.out _).mono fun k _ h => .inr h⟩)
  have t0 : (c == 10) = ((c.toNat : Int) == 10) := by
    rw [Bool.eq_iff_iff, beq_iff_eq, beq_iff_eq, ← UInt8.toNat_inj]; show c.toNat = 10 ↔ _; omega
  have t1 : (c == 13) = ((c.toNat : Int) == 13) := by
    rw [Bool.eq_iff_iff, beq_iff_eq, beq_iff_eq, ← UInt8.toNat_inj]; show c.toNat = 13 ↔ _; omega
  have HR : Hid (readN p c = if p.cr && c == 10 then ⟨{ p with head := p.head + 1, line := [], cr := false }, p.line, true, 0⟩
    else if p.cr || c == 10 then ⟨{ p with head := p.head + 1 }, [], false, 400⟩
    else if c == 13 then ⟨{ p with head := p.head + 1, cr := true }, [], false, 0⟩
    else if p.line.length ≥ 8192 then ⟨{ p with head := p.head + 1 }, [], false, 431⟩
    else ⟨{ p with head := p.head + 1, line := p.line ++ [c] }, [], false, 0⟩) := Lib.hid (by unfold readN; rw [if_neg h1])
  rw [t0, t1] at HR
  clear t0 t1
  cases hcr : p.cr with
  | true =>
    rw [hcr] at c1 HR
    have HC := Lib.hid hcr
    clear hcr
    cases h10 : ((c.toNat : Int) == 10) with
    | true =>
      rw [h10] at HR
      have HR2 : Hid (readN p c = ⟨{ p with head := p.head + 1, line := [], cr := false }, p.line, true, 0⟩) := Lib.hid (by rw [HR.out]; (try simp only [HC.out]); first | done | rfl)
      rw [HR2.out] at hR
      clear HR HR2
      go_wp2_with (with_reducible (first | refine stop_append ?_ | refine stop_convert ?_))
      refine ⟨wp_string Tryd.underlying26 Tryd.underlying5 Tryd.underlying9 (HO.out.view.keep (HK.out _) fun k hk e => H.out.out (e ▸ H.out.inL k hk)) ?_⟩
      go_wp2_with (with_reducible (first | refine stop_append ?_ | refine stop_convert ?_))
      have k3 := ((HK.out (.int .i64 (p.head + 1))).set (p := ⟨b, 0, none⟩) rfl (.slice none 0 0)).set (p := ⟨b, 1, none⟩) rfl (.bool false)
      have b3 := blk_set (blk_set (HB.out (.int .i64 (p.head + 1))) 0 (.slice none 0 0)) 1 (.bool false)
      exact bodyPost_ret (v := .tuple #[.string (ofL p.line), .bool true, .int .i64 0]) (by simp [results, Tryd.results27, go_sem]) rfl (hR _ _ ⟨rfl, ⟨_, _, _, H.out.newL (k3.mono fun _ _ h => .inl h) b3 (Own.nil _ _ _ _) (fun k h => by simp [Value.ownBlock] at h) rfl rfl⟩, k3.mono fun k _ h => .inr h⟩)
    | false =>
      rw [h10] at HR
      have HR2 : Hid (readN p c = ⟨{ p with head := p.head + 1 }, [], false, 400⟩) := Lib.hid (by rw [HR.out]; (try simp only [HC.out]); first | done | rfl)
      rw [HR2.out] at hR
      clear HR HR2
      go_wp2_with (with_reducible (first | refine stop_append ?_ | refine stop_convert ?_))
      exact bodyPost_ret (v := .tuple #[.string ⟨#[]⟩, .bool false, .int .i64 400]) (by simp [results, Tryd.results27, go_sem]) rfl (hR _ _ ⟨rfl, ⟨_, _, _, H.out.scal (HK.out _) (HB.out _) rfl rfl rfl⟩, (HK.out _).mono fun k _ h => .inr h⟩)
  | false =>
    rw [hcr] at c1 HR
    have HC := Lib.hid hcr
    clear hcr
    cases h10 : ((c.toNat : Int) == 10) with
    | true =>
      rw [h10] at HR
      have HR2 : Hid (readN p c = ⟨{ p with head := p.head + 1 }, [], false, 400⟩) := Lib.hid (by rw [HR.out]; (try simp only [HC.out]); first | done | rfl)
      rw [HR2.out] at hR
      clear HR HR2
      go_wp2_with (with_reducible (first | refine stop_append ?_ | refine stop_convert ?_))
      exact bodyPost_ret (v := .tuple #[.string ⟨#[]⟩, .bool false, .int .i64 400]) (by simp [results, Tryd.results27, go_sem]) rfl (hR _ _ ⟨rfl, ⟨_, _, _, H.out.scal (HK.out _) (HB.out _) rfl rfl rfl⟩, (HK.out _).mono fun k _ h => .inr h⟩)
    | false =>
      rw [h10] at HR
      cases h13 : ((c.toNat : Int) == 13) with
      | true =>
        rw [h13] at HR
        have HR2 : Hid (readN p c = ⟨{ p with head := p.head + 1, cr := true }, [], false, 0⟩) := Lib.hid (by rw [HR.out]; (try simp only [HC.out]); first | done | rfl)
        rw [HR2.out] at hR
        clear HR HR2
        go_wp2_with (with_reducible (first | refine stop_append ?_ | refine stop_convert ?_))
        have k2 := (HK.out (.int .i64 (p.head + 1))).set (p := ⟨b, 1, none⟩) rfl (.bool true)
        have b2 := blk_set (HB.out (.int .i64 (p.head + 1))) 1 (.bool true)
        exact bodyPost_ret (v := .tuple #[.string ⟨#[]⟩, .bool false, .int .i64 0]) (by simp [results, Tryd.results27, go_sem]) rfl (hR _ _ ⟨rfl, ⟨_, _, _, H.out.scal k2 b2 rfl rfl rfl⟩, k2.mono fun k _ h => .inr h⟩)
      | false =>
        rw [h13] at HR
        have HLN : Hid (∃ N : Nat, p.line.length = N) := Lib.hid ⟨_, rfl⟩
        by_cases h8 : 8192 ≤ (p.line.length : Int)
        · have h8' : p.line.length ≥ 8192 := by omega
          rw [if_pos h8'] at HR
          clear h8'
          have HR2 : Hid (readN p c = ⟨{ p with head := p.head + 1 }, [], false, 431⟩) := Lib.hid (by rw [HR.out]; (try simp only [HC.out]); first | done | rfl)
          rw [HR2.out] at hR
          clear HR HR2
          go_wp2_with (with_reducible (first | refine stop_append ?_ | refine stop_convert ?_))
          exact bodyPost_ret (v := .tuple #[.string ⟨#[]⟩, .bool false, .int .i64 431]) (by simp [results, Tryd.results27, go_sem]) rfl (hR _ _ ⟨rfl, ⟨_, _, _, H.out.scal (HK.out _) (HB.out _) rfl rfl rfl⟩, (HK.out _).mono fun k _ h => .inr h⟩)
        · have h8' : ¬ p.line.length ≥ 8192 := by omega
          rw [if_neg h8'] at HR
          clear h8'
          have HR2 : Hid (readN p c = ⟨{ p with head := p.head + 1, line := p.line ++ [c] }, [], false, 0⟩) := Lib.hid (by rw [HR.out]; (try simp only [HC.out]); first | done | rfl)
          rw [HR2.out] at hR
          clear HR HR2
          go_wp2_with (with_reducible (first | refine stop_append ?_ | refine stop_convert ?_))
          obtain ⟨LL, hLL⟩ : ∃ LL, p.line ++ [c] = LL := ⟨_, rfl⟩
          rw [hLL] at hR
          refine ⟨wp_append1 (r := Rp.u8) (F := fun k => (Value.slice A p.line.length n).ownBlock = some k) (G := fun _ => False) (y := c) Tryd.underlying26 info5 rfl (show 0 < 1 by decide) (HO.out.keep (HK.out _) fun k hk e => H.out.out (e ▸ H.out.inL k hk)) rfl (by rw [size_setCell]; rfl) rfl (fun k h => h.elim) (by omega) (by decide) ?_⟩
          intro v1 w1 ho1 hk1 _ hb1
          rw [hLL] at ho1
          have HO1 := Lib.hid (ho1.flat (F' := fun k => v1.ownBlock = some k) (fun k h => h))
          clear ho1
          have hnb : ¬ (some b = (Value.slice A p.line.length n).ownBlock) := fun e => H.out.out (H.out.inL b e.symm)
          have B1 := Lib.hid (hk1.blk (HB.out (.int .i64 (p.head + 1))) hnb)
          have g0 := blk_cell B1.out 0
          simp [pcells] at g0
          have g1 := blk_free B1.out 0
          have g2 := blk_lt B1.out
          have HK1 := Lib.hid hk1; have HB1 := Lib.hid hb1; have HLL := Lib.hid hLL
          clear hk1 hb1 hnb hLL
          obtain ⟨A1, n1, rfl, hn1⟩ := HO1.out.slice
          go_wp2_with fail
          have k2 : Keep (fun k => k = b ∨ (Value.slice A p.line.length n).ownBlock = some k) w w1 := ((HK.out (.int .i64 (p.head + 1))).mono (G := fun k => k = b ∨ (Value.slice A p.line.length n).ownBlock = some k) fun _ _ h => .inl h).trans HK1.out fun i _ h => .inr h.symm
          have k3 := k2.set (p := ⟨b, 0, none⟩) (.inl rfl) (.slice A1 LL.length n1)
          have b3 := blk_set B1.out 0 (.slice A1 LL.length n1)
          have hL1 : ∀ k, (Value.slice A1 LL.length n1).ownBlock = some k → (Value.slice A p.line.length n).ownBlock = some k ∨ w.heap.size ≤ k := fun k hk => by
            rcases HB1.out with e | ⟨j, e, hj⟩
            · exact .inl (e ▸ hk)
            · rw [e] at hk; cases hk; rw [size_setCell] at hj; exact .inr hj
          have hol := HO1.out.keep ((Keep.refl (fun k => k = b) w1).set (p := ⟨b, 0, none⟩) rfl (.slice A1 LL.length n1)) (fun k hk e => by
            subst e
            rcases hL1 k hk with h1 | h1
            · exact H.out.out (H.out.inL k h1)
            · omega)
          exact bodyPost_ret (v := .tuple #[.string ⟨#[]⟩, .bool false, .int .i64 0]) (by simp [results, Tryd.results27, go_sem]) rfl (hR _ _ ⟨rfl, ⟨_, _, _, H.out.newL k3 b3 hol hL1 rfl rfl⟩, k3.mono fun k _ h => h.elim .inr fun h => .inl (H.out.inL k h)⟩)
end Go.Proofs.YtaihjnicondifaaDoor.Asc
