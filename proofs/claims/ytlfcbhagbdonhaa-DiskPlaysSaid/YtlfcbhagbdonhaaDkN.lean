/-
  Contract: the law's awake.
  Lengths within the rows' own reach.
-/
import Derived.Test.YtlfcbhagbdonhaaDkM
import Derived.Lib.SlBytesConst
namespace Go.Proofs.Ytlfcbhagbdonhaa.Asc
set_option linter.unusedSimpArgs false
set_option linter.unusedVariables false
open Go Go.RowKit Go.Proofs.Ytlfcbhagbdonhaa.Pb

section
variable {w w' : World} {S : Nat → Prop} {d : Nat} {dk : Dk}
theorem DAt.lt (h : DAt w S d dk) : d < w.heap.size := by obtain ⟨_, _, _, h⟩ := h; exact h.lt
theorem DAt.ok (h : DAt w S d dk) : dk.Ok := by obtain ⟨_, _, _, h⟩ := h; exact h.ok
theorem DAt.mono {S' : Nat → Prop} (h : DAt w S d dk) (hS : ∀ k, k < w.heap.size → S k → S' k) (ho : ¬ S' d) : DAt w S' d dk := by obtain ⟨g, tag, mv, h⟩ := h; exact ⟨g, tag, mv, h.mono hS ho⟩
theorem DAt.below (h : DAt w S d dk) (hk : Below w.heap.size w w') : DAt w' S d dk := by obtain ⟨g, tag, mv, h⟩ := h; exact ⟨g, tag, mv, h.below hk⟩
theorem DAt.keep {G : Nat → Prop} (h : DAt w S d dk) (hk : Keep G w w') (hG : ∀ k, k < w.heap.size → S k ∨ k = d → ¬ G k) : DAt w' S d dk := by obtain ⟨g, tag, mv, h⟩ := h; exact ⟨g, tag, mv, h.keep hk hG⟩
/-- all its blocks lie behind it, so far -/
theorem DAt.now (h : DAt w S d dk) (hS : ∀ k, S k → d < k) : DAt w (fun k => d < k ∧ k < w.heap.size) d dk := h.mono (fun k hk h => ⟨hS k h, hk⟩) (fun h => by omega)
end

/-- the world behind a literal of bytes, alone in a row of rows -/
theorem lit_parts (w : World) (C : List UInt8) (A : Array Value) (fz : Nat × Nat) (n N : Nat) (hN : w.heap.size = N) (hC : A.toList = C.map u8v) (hn : n = C.length) (t : TypeId) :
    View Rp.u8.view ((w.alloc (.cells A 5 fz)).alloc (.cells #[.slice (some ⟨N, 0, none⟩) n n] t)) (fun k => N ≤ k) [C] (.slice (some ⟨N + 1, 0, none⟩) 1 1) ∧ Below N w ((w.alloc (.cells A 5 fz)).alloc (.cells #[.slice (some ⟨N, 0, none⟩) n n] t)) := by
  subst hN
  have h1 := blk_new w (.cells A 5 fz)
  have b1 := below_new w (.cells A 5 fz)
  have b2 := below_new (w.alloc (.cells A 5 fz)) (.cells #[.slice (some ⟨w.heap.size, 0, none⟩) n n] t)
  have hz : (w.alloc (.cells A 5 fz)).heap.size = w.heap.size + 1 := by simp
  have h2 := blk_new (w.alloc (.cells A 5 fz)) (.cells #[.slice (some ⟨w.heap.size, 0, none⟩) n n] t)
  rw [hz] at h2 b2
  exact ⟨view_rows1 h2 (view_cells C n ((b2.block w.heap.size (by omega)).trans h1) hC hn (Nat.le_refl _)) (by show _ ≤ _ + 1; omega), b1.trans (b2.mono (by omega))⟩

/-- a disk made behind w0; blocks of P are none of its own -/
structure One (P : Nat → Prop) (w0 w : World) (d : Nat) (dk : Dk) : Prop where
  dat : DAt w (fun k => d < k ∧ k < w.heap.size ∧ ¬ P k) d dk
  bel : Below d w0 w
section
variable {P : Nat → Prop} {w0 w w' : World} {d : Nat} {dk : Dk}
theorem One.lt (h : One P w0 w d dk) : d < w.heap.size := h.dat.lt
theorem One.below {P' : Nat → Prop} (h : One P w0 w d dk) (hb : Below w.heap.size w w') (hP : ∀ k, P' k → P k ∨ w.heap.size ≤ k) : One P' w0 w' d dk :=
  ⟨(h.dat.mono (S' := fun k => d < k ∧ k < w.heap.size ∧ ¬ P' k) (fun k hk h => ⟨h.1, hk, fun e => (hP k e).elim h.2.2 fun e => by omega⟩) (fun h => by omega)).below hb |>.mono (fun k hk h => ⟨h.1, hk, h.2.2⟩) (fun h => by omega), h.bel.trans (hb.mono (by have := h.lt; omega))⟩
theorem One.after {dk' : Dk} (h : One P w0 w d dk) (hP : ∀ k, P k → k < w.heap.size) (hd : DAt w' (fun k => (d < k ∧ k < w.heap.size ∧ ¬ P k) ∨ w.heap.size ≤ k) d dk') (hk : Keep (fun k => (d < k ∧ k < w.heap.size ∧ ¬ P k) ∨ k = d) w w') : One P w0 w' d dk' :=
  ⟨hd.mono (fun k hk h' => by
    rcases h' with h' | h'
    · exact ⟨h'.1, hk, h'.2.2⟩
    · exact ⟨by have := h.lt; omega, hk, fun e => by have := hP k e; omega⟩) (fun h => by omega), h.bel.trans (hk.below (by have := h.lt; omega) fun i hi e => by rcases e with e | e <;> omega)⟩
theorem append_one (h : One P w0 w d dk) (hP : ∀ k, P k → k < w.heap.size) (ho : dk.ops ≤ 1000000) (hu : usedN dk.fs ≤ 1000000000) (hlen : dk.fs.length ≤ 1000) (T : ByteArray) (hT : T.size ≤ 1000000)
    (parts : List (List UInt8)) (pv : Value) (F : Nat → Prop) (hv : View Rp.u8.view w F parts pv) (hF : ¬ F d) (hpl : parts.length ≤ 1000000) (hps : lenSum parts parts.length ≤ 1000000) {E : Int} {dk' : Dk} (he : dk.append (toL T) parts.flatten = (E, dk')) :
    Calls Try.prog 11 #[.pointer (some ⟨d, 0, none⟩), .string T, pv] w fun e w' => e = .returned (.int .i64 E) ∧ One P w0 w' d dk' ∧ Keep (fun k => d ≤ k ∧ ¬ P k ∨ k = d) w w' := by
  obtain ⟨g, tag, mv, hd⟩ := h.dat
  refine (append_any hd ho hu hlen T hT parts pv F hv hF hpl hps).mono ?_
  rw [he]
  rintro e w' ⟨h1, h2, h3⟩
  exact ⟨h1, h.after hP h2 h3, h3.mono fun k _ h => h.imp (fun h => ⟨by omega, h.2.2⟩) id⟩
theorem sync_one {F : Nat → Prop} {w1 : World} (h : One P w0 w d dk) (hb : Below w.heap.size w w1) (hP : ∀ k, P k → k < w.heap.size) (ho : dk.ops ≤ 1000000) (ls : List Tx) (sv : Value) (hv : View Rp.str w1 F ls sv) (hF : ∀ k, F k → w.heap.size ≤ k) (hls : ls.length ≤ 1000000) (hlx : ∀ x ∈ ls, x.length ≤ 1000000) {E : Int} {dk' : Dk} (he : dk.sync ls = (E, dk')) :
    Calls Try.prog 12 #[.pointer (some ⟨d, 0, none⟩), sv] w1 fun e w' => e = .returned (.int .i64 E) ∧ One P w0 w' d dk' ∧ Keep (fun k => d ≤ k ∧ ¬ P k ∨ k = d) w1 w' := by
  obtain ⟨g, tag, mv, hd⟩ := (h.dat.mono (S' := fun k => d < k ∧ k < w.heap.size ∧ ¬ P k) (fun k _ h => h) (fun h => by omega)).below hb
  refine (syncd_any hd ho ls sv F hv (fun k hk => ⟨fun h => by have := hF k hk; omega, by have := hF k hk; have := h.lt; omega⟩) hls hlx).mono ?_
  rw [he]
  rintro e w' ⟨h1, h2, h3⟩
  have hs := hb.size
  refine ⟨h1, ⟨h2.mono (fun k hk h' => ?_) (fun h => by omega), (h.bel.trans (hb.mono (by have := h.lt; omega))).trans (h3.below (by have := h.lt; omega) fun i hi e => by rcases e with e | e <;> omega)⟩, h3.mono fun k _ h => h.imp (fun h => ⟨by omega, h.2.2⟩) id⟩
  rcases h' with h' | h'
  · exact ⟨h'.1, hk, h'.2.2⟩
  · exact ⟨by have := h.lt; omega, hk, fun e => by have := hP k e; omega⟩
end
set_option maxHeartbeats 4000000 in
set_option maxRecDepth 20000 in
theorem awake4_any (w : World) :
    Calls Try.prog 8 #[] w fun e w' => e = .returned (.bool true) ∧ Below w.heap.size w w' := by
  refine calls_gen fun R hR => ?_
  have kc := fun (w : World) (C : Array Value) (n c : Nat) => Lib.run_convert_bytes_const (P := Try.prog) w 28 5 C n c Try.underlying28 Try.underlying5
  have KC := Lib.hid kc
  clear kc
  obtain ⟨d0, hd0⟩ : ∃ d0, w.heap.size = d0 := ⟨_, rfl⟩
  rw [hd0] at hR
  go_enter Try.func8, Try.ntmps8
  go_wp2_with fail
  refine (new_any 100 w).mono ?_
  rintro e w1 ⟨_, h1⟩
  obtain ⟨rfl, hd1, hb1⟩ := h1 (by decide) (by decide)
  rw [hd0] at hd1 hb1 ⊢
  have HD1 : Hid (One (fun _ => False) w w1 d0 { room := 100 }) := Lib.hid ⟨(DAt.now ⟨_, _, _, hd1⟩ fun _ h => h).mono (fun k _ h => ⟨h.1, h.2, fun h => h⟩) (fun h => by omega), hb1⟩
  clear h1 hd1 hb1 hd0
  have hlt1 := HD1.out.lt
  obtain ⟨n1, hn1⟩ : ∃ n, w1.heap.size = n := ⟨_, rfl⟩
  have kc1 : (convert 28 28 (.slice (some ⟨n1, 0, none⟩) 3 3)).run Try.prog (w1.alloc (.cells #[.int .u8 97, .int .u8 98, .int .u8 99] 5)) = .ok (.slice (some ⟨n1, 0, none⟩) 3 3) (w1.alloc (.cells #[.int .u8 97, .int .u8 98, .int .u8 99] 5 (3, 4))) := by
    have := KC.out w1 #[.int .u8 97, .int .u8 98, .int .u8 99] 3 3; rw [hn1] at this; exact this
  go_wp2_with fail
  clear kc1
  obtain ⟨hv1, hx1⟩ := lit_parts w1 [97, 98, 99] #[.int .u8 97, .int .u8 98, .int .u8 99] (3, 4) 3 n1 hn1 rfl rfl 28
  obtain ⟨w2, hw2⟩ : ∃ w2, ((w1.alloc (.cells #[.int .u8 97, .int .u8 98, .int .u8 99] 5 (3, 4))).alloc (.cells #[.slice (some ⟨n1, 0, none⟩) 3 3] 28)) = w2 := ⟨_, rfl⟩
  rw [hw2] at hv1 hx1 ⊢
  have HD2 := Lib.hid (HD1.out.below (P' := fun _ => False) (hn1.symm ▸ hx1) (fun _ h => h.elim))
  have HV2 := Lib.hid hv1
  clear hw2 hv1 hx1
  refine (append_one HD2.out (fun _ h => h.elim) (by decide) (by decide) (by decide) ⟨#[97]⟩ (by decide) _ _ _ HV2.out (by omega) (by decide) (by decide) (E := 0) (dk' := { room := 100, fs := [⟨[97], [97, 98, 99], 0⟩], ops := 1 }) (by decide +kernel)).mono ?_
  rintro e w3 ⟨rfl, hd3, _⟩
  have HD3 := Lib.hid hd3
  clear hd3 HD2 HV2 hn1 hlt1 HD1
  obtain ⟨n3, hn3⟩ : ∃ n, w3.heap.size = n := ⟨_, rfl⟩
  have hlt3 := HD3.out.lt
  go_wp2_with fail
  have hv3 := view_cells (h1 := fun _ => rfl) (enc := fun x => Value.string (ofL x)) (G := fun k => w3.heap.size ≤ k) [([97] : Tx)] 1 (blk_new w3 (.cells #[.string ⟨#[97]⟩] 9)) rfl rfl (Nat.le_refl _)
  rw [hn3] at hv3
  refine (sync_one HD3.out (below_new w3 (.cells #[.string ⟨#[97]⟩] 9)) (fun _ h => h.elim) (by decide) [[97]] (.slice (some ⟨n3, 0, none⟩) 1 1) hv3 (fun _ h => hn3 ▸ h) (by decide) (by decide) (E := 0) (dk' := { room := 100, fs := [⟨[97], [97, 98, 99], 3⟩], ops := 2 }) (by decide +kernel)).mono ?_
  rintro e w4 ⟨rfl, hd4, _⟩
  have HD4 := Lib.hid hd4
  clear hd4 hv3 HD3 hn3 hlt3
  have hlt4 := HD4.out.lt
  obtain ⟨n4, hn4⟩ : ∃ n, w4.heap.size = n := ⟨_, rfl⟩
  have kc1 : (convert 28 28 (.slice (some ⟨n4, 0, none⟩) 2 2)).run Try.prog (w4.alloc (.cells #[.int .u8 100, .int .u8 101] 5)) = .ok (.slice (some ⟨n4, 0, none⟩) 2 2) (w4.alloc (.cells #[.int .u8 100, .int .u8 101] 5 (2, 3))) := by
    have := KC.out w4 #[.int .u8 100, .int .u8 101] 2 2; rw [hn4] at this; exact this
  go_wp2_with fail
  clear kc1
  obtain ⟨hv1, hx1⟩ := lit_parts w4 [100, 101] #[.int .u8 100, .int .u8 101] (2, 3) 2 n4 hn4 rfl rfl 28
  obtain ⟨w5, hw5⟩ : ∃ w2, ((w4.alloc (.cells #[.int .u8 100, .int .u8 101] 5 (2, 3))).alloc (.cells #[.slice (some ⟨n4, 0, none⟩) 2 2] 28)) = w2 := ⟨_, rfl⟩
  rw [hw5] at hv1 hx1 ⊢
  have HD5 := Lib.hid (HD4.out.below (P' := fun _ => False) (hn4.symm ▸ hx1) (fun _ h => h.elim))
  have HV5 := Lib.hid hv1
  clear hw5 hv1 hx1
  refine (append_one HD5.out (fun _ h => h.elim) (by decide) (by decide) (by decide) ⟨#[97]⟩ (by decide) _ _ _ HV5.out (by omega) (by decide) (by decide) (E := 0) (dk' := { room := 100, fs := [⟨[97], [97, 98, 99, 100, 101], 3⟩], ops := 3 }) (by decide +kernel)).mono ?_
  rintro e w6 ⟨rfl, hd6, _⟩
  have HD6 := Lib.hid hd6
  clear hd6 HD5 HV5 hn4 HD4 hlt4
  have hlt6 := HD6.out.lt
  obtain ⟨n6, hn6⟩ : ∃ n, w6.heap.size = n := ⟨_, rfl⟩
  go_wp2_with fail
  have hv6 : View Rp.int (w6.alloc (.cells #[.int .i64 1] 3)) (fun _ => True) [1] (.slice (some ⟨n6, 0, none⟩) 1 1) := hn6 ▸ view_cells (h1 := fun _ => rfl) (enc := Value.int .i64) [(1 : Int)] 1 (blk_new w6 (.cells #[.int .i64 1] 3)) rfl rfl trivial
  have HD7 := Lib.hid (HD6.out.below (P' := fun _ => False) (below_new w6 (.cells #[.int .i64 1] 3)) (fun _ h => h.elim))
  obtain ⟨w7, hw7⟩ : ∃ w7, w6.alloc (.cells #[.int .i64 1] 3) = w7 := ⟨_, rfl⟩
  rw [hw7] at hv6 HD7 ⊢
  have HV6 := Lib.hid hv6
  clear hw7 hv6 hn6 hlt6
  obtain ⟨g7, t7, m7, hd7⟩ := HD7.out.dat
  refine (crash_any hd7 (by decide) (by simp) [1] _ _ HV6.out (by decide)).mono ?_
  rintro e w8 ⟨rfl, ⟨g8, t8, m8, hd8⟩, hb8⟩
  rw [show ({ room := 100, fs := [⟨[97], [97, 98, 99, 100, 101], 3⟩], ops := 3 } : Dk).crash [1] = { room := 100, fs := [⟨[97], [97, 98, 99, 100], 4⟩] } by decide +kernel] at hd8
  have HDC := Lib.hid hd8
  have HD8 := Lib.hid (HD7.out.below (P' := fun _ => False) hb8 (fun _ h => h.elim))
  clear hd7 hd8 hb8 HV6 HD7
  go_wp2_with fail
  refine (read_any HDC.out ⟨#[97]⟩ (by decide) (by simp)).mono ?_
  rintro e w9 ⟨u9, rfl, ho9, hb9⟩
  rw [show look ({ room := 100, fs := [⟨[97], [97, 98, 99, 100], 4⟩] } : Dk).fs (toL ⟨#[97]⟩) = some ⟨[97], [97, 98, 99, 100], 4⟩ by decide +kernel] at ho9 ⊢
  have HD9 := Lib.hid (HD8.out.below (P' := fun _ => False) hb9 (fun _ h => h.elim))
  have HV9 : Hid (View Rp.u8 w9 (fun _ => True) [97, 98, 99, 100] u9) := Lib.hid (ho9.view.mono fun _ _ => trivial)
  clear ho9 hb9 HDC HD8
  go_wp2_with fail
  obtain ⟨gx, tx, mx, hdx⟩ := HD9.out.dat
  refine (crash_any hdx (by decide) (by simp) [] _ (fun _ => False) (View.nil _ _ _) (by decide)).mono ?_
  rintro e wa ⟨rfl, ⟨ga, ta, ma, hda⟩, hba⟩
  rw [show ({ room := 100, fs := [⟨[97], [97, 98, 99, 100, 101], 3⟩], ops := 3 } : Dk).crash [] = { room := 100, fs := [⟨[97], [97, 98, 99], 3⟩] } by decide +kernel] at hda
  have HDC := Lib.hid hda
  have HDa := Lib.hid (HD9.out.below (P' := fun _ => False) hba (fun _ h => h.elim))
  have HVa := Lib.hid (HV9.out.below hba)
  clear hdx hda hba HV9 HD9
  go_wp2_with fail
  refine (read_any HDC.out ⟨#[97]⟩ (by decide) (by simp)).mono ?_
  rintro e wb ⟨ub, rfl, hob, hbb⟩
  rw [show look ({ room := 100, fs := [⟨[97], [97, 98, 99], 3⟩] } : Dk).fs (toL ⟨#[97]⟩) = some ⟨[97], [97, 98, 99], 3⟩ by decide +kernel] at hob ⊢
  have HDb := Lib.hid (HDa.out.below (P' := fun _ => False) hbb (fun _ h => h.elim))
  have HVb := Lib.hid (HVa.out.below hbb)
  have HV : Hid (View Rp.u8 wb (fun _ => True) [97, 98, 99] ub) := Lib.hid (hob.view.mono fun _ _ => trivial)
  clear hob hbb HDC HDa HVa
  have r1 := run_string Try.underlying28 Try.underlying5 Try.underlying9 HVb.out
  have r2 := run_string Try.underlying28 Try.underlying5 Try.underlying9 HV.out
  have e1 : ((ofL [97, 98, 99, 100]).toList == [97, 98, 99, 100]) = true := by decide +kernel
  have e2 : ((ofL [97, 98, 99]).toList == [97, 98, 99]) = true := by decide +kernel
  go_wp2_with fail
  go_ret
  exact hR _ _ ⟨rfl, HDb.out.bel⟩
end Go.Proofs.Ytlfcbhagbdonhaa.Asc
