/-
  Contract: files are synced.
  Lengths within the rows' own reach.
-/
import Derived.Test.YtlfcbhagbdonhaaDkH
namespace Go.Proofs.Ytlfcbhagbdonhaa.Asc
set_option linter.unusedSimpArgs false
set_option linter.unusedVariables false
open Go Go.RowKit Go.Proofs.Ytlfcbhagbdonhaa.Pb

theorem names_syncF (fs : List Fl) (n : Tx) : names (syncF fs n) = names fs := by
  unfold syncF; split
  · rfl
  · exact names_set _ _
theorem names_sync (ls : List Tx) : ∀ fs : List Fl, names (ls.foldl syncF fs) = names fs := by
  induction ls with
  | nil => intro fs; rfl
  | cons a ls ih => intro fs; rw [List.foldl_cons, ih, names_syncF]
theorem look_isSome (fs : List Fl) (n : Tx) : (look fs n).isSome = decide (n ∈ names fs) := by
  cases h : look fs n with
  | none => rw [decide_eq_false (look_none_iff.1 h)]; rfl
  | some f =>
    have hm : n ∈ names fs := List.mem_map.2 ⟨f, (look_some h).1, (look_some h).2⟩
    rw [decide_eq_true hm]; rfl

section
variable {w : World} {S : Nat → Prop} {d : Nat} {dk : Dk} {g : Tx → Option Nat} {tag : Nat → Option Tx} {mv : Option Nat}
set_option maxHeartbeats 4000000 in
theorem syncd_any (h : DIn w S d dk g tag mv) (ho : dk.ops ≤ 1000000) (ls : List Tx) (sv : Value) (F : Nat → Prop) (hv : View Rp.str w F ls sv) (hF : ∀ k, F k → ¬ S k ∧ k ≠ d) (hls : ls.length ≤ 1000000) (hlx : ∀ x ∈ ls, x.length ≤ 1000000) :
    Calls Try.prog 12 #[.pointer (some ⟨d, 0, none⟩), sv] w fun e w' =>
      e = .returned (.int .i64 (dk.sync ls).1) ∧ DAt w' (fun k => S k ∨ w.heap.size ≤ k) d (dk.sync ls).2 ∧ Keep (fun k => S k ∨ k = d) w w' := by
  refine calls_gen fun R hR => ?_
  obtain ⟨A, c, rfl, hc, _⟩ := hv.open1
  have H := Lib.hid h; have HV := Lib.hid hv; have HX := Lib.hid hlx
  have hlt := h.lt
  have HDL : Hid (d < w.heap.size) := Lib.hid hlt
  clear h hv hlx
  go_enter Try.func12, Try.ntmps12
  go_wp2_with fail
  refine (op_any H.out ho).mono ?_
  rintro e w1 ⟨rfl, hd1, hk1⟩
  have HD1 := Lib.hid hd1; have HK1 := Lib.hid hk1
  have HKA : Hid (Keep (fun k => S k ∨ k = d) w w1) := Lib.hid (hk1.mono fun _ _ h => .inr h)
  have HV1 : Hid (View Rp.str w1 F ls (.slice A ls.length c)) := Lib.hid (HV.out.keep hk1 fun k h e => (hF k h).2 e)
  have HST : Hid (DAt w1 (fun k => S k ∨ w.heap.size ≤ k) d dk.tick) := Lib.hid ⟨g, tag, mv, hd1.mono (fun _ _ h => .inl h) fun h => h.elim H.out.out fun h => by omega⟩
  clear hd1 hk1
  cases hoff : dk.off with
  | true =>
    have hw : dk.sync ls = (6, dk.tick) := by unfold Dk.sync; rw [if_pos hoff]
    rw [hw] at hR
    clear hw
    go_wp2_with fail
    go_ret
    exact hR _ _ ⟨rfl, HST.out, HKA.out⟩
  | false =>
    have hw : dk.sync ls = if ls.any (fun n => (look dk.fs n).isNone) then (4, dk.tick) else (0, { dk.tick with fs := ls.foldl syncF dk.fs }) := by
      unfold Dk.sync; rw [if_neg (by rw [hoff]; decide)]
    rw [hw] at hR
    clear hw
    go_wp2_with fail
    go_loopw [16] (fun i wr => ∃ k : Nat, k ≤ ls.length ∧ i = .int .i64 k ∧ wr = w1 ∧ ∀ n ∈ ls.take k, (look dk.fs n).isSome = true) (fun i _ => ls.length - (intOf i).toNat)
    case atStart => exact ⟨0, Nat.zero_le _, rfl, rfl, by simp⟩
    case round =>
      obtain ⟨k, hk, rfl, hwr, hall⟩ := hrel
      rw [hwr]
      have HWR := Lib.hid hwr; have HA := Lib.hid hall
      clear hwr hall
      by_cases hlt1 : k < ls.length
      · obtain ⟨x, hx⟩ : ∃ x, ls[k]? = some x := ⟨_, List.getElem?_eq_getElem hlt1⟩
        have hxl := HX.out x (List.mem_of_getElem? hx)
        have HTK : Hid (ls.take (k + 1) = ls.take k ++ [x]) := Lib.hid (by rw [List.take_add_one, hx]; rfl)
        obtain ⟨A', c', e, _, hget⟩ := HV1.out.open1
        cases e
        obtain ⟨gb, off, rfl, hgb, hgx⟩ := hget k hlt1
        have d0 : w1.cell? ⟨gb, off + k, none⟩ = some (.string (ofL x)) := hgx k x hx
        have HXM : Hid (x ∈ ls) := Lib.hid (List.mem_of_getElem? hx)
        clear hgx hget hx
        obtain ⟨X, hX⟩ : ∃ X, ofL x = X := ⟨_, rfl⟩
        have hXs : X.size ≤ 1000000 := by rw [← hX, ofL_size]; exact hxl
        have HXX : Hid (toL X = x) := Lib.hid (by rw [← hX, toL_ofL])
        rw [hX] at d0
        clear hX
        have hlk := HD1.out.lookup1 hXs
        rw [HXX.out] at hlk
        have c1 := blk_cell HD1.out.blk 1
        simp only [dcells, List.getElem?_toArray, List.getElem?_cons_zero, List.getElem?_cons_succ] at c1
        have hltd := HD1.out.lt
        have HGS := Lib.hid (HD1.out.hasg x)
        cases hgx : g x with
        | none =>
          rw [hgx] at hlk HGS
          have hany : ls.any (fun n => (look dk.fs n).isNone) = true := List.any_eq_true.2 ⟨x, HXM.out, by
            have := HGS.out
            cases hl : look dk.fs x with
            | none => rfl
            | some f => rw [show look dk.tick.fs x = look dk.fs x from rfl, hl] at this; cases this⟩
          rw [if_pos hany] at hR
          replace hlk : (Instr.lookup 59 (.map mv) (.string X) false).run Try.prog w1 = .ok (.pointer none) w1 := hlk
          clear hany hgx
          go_wp2_with fail
          go_ret
          exact hR _ _ ⟨rfl, HST.out, HKA.out⟩
        | some fb =>
          rw [hgx] at hlk HGS
          replace hlk : (Instr.lookup 59 (.map mv) (.string X) false).run Try.prog w1 = .ok (.pointer (some ⟨fb, 0, none⟩)) w1 := hlk
          clear hgx
          go_wp2_with fail
          go_roundw
          case rel => exact ⟨k + 1, by omega, by go_num, by first | trivial | rfl | exact HWR.out, fun n hn => by
            rw [HTK.out, List.mem_append, List.mem_singleton] at hn
            rcases hn with hn | rfl
            · exact HA.out n hn
            · exact HGS.out.symm⟩
          case measure => simp [intOf]; omega
      · obtain rfl : k = ls.length := by omega
        rw [List.take_length] at HA
        have hany : ¬ ls.any (fun n => (look dk.fs n).isNone) = true := fun h => by
          obtain ⟨n, hn, h⟩ := List.any_eq_true.1 h
          have := HA.out n hn
          cases hl : look dk.fs n with
          | none => rw [hl] at this; cases this
          | some f => rw [hl] at h; cases h
        rw [if_neg hany] at hR
        clear hany
        go_wp2_with fail
        go_loopw [30] (fun i wr => ∃ k : Nat, k ≤ ls.length ∧ i = .int .i64 k ∧ DAt wr (fun j => (S j ∧ j < w1.heap.size) ∨ w1.heap.size ≤ j) d { dk.tick with fs := (ls.take k).foldl syncF dk.fs } ∧ Keep (fun j => S j ∨ j = d) w1 wr) (fun i _ => ls.length - (intOf i).toNat)
        case atStart => exact ⟨0, Nat.zero_le _, rfl, ⟨g, tag, mv, HD1.out.mono (fun k hk h => .inl ⟨h, hk⟩) fun h => h.elim (fun h => H.out.out h.1) fun h => by have := HD1.out.lt; omega⟩, Keep.refl _ _⟩
        case round =>
          obtain ⟨k, hk, rfl, ⟨g', tag', mv', hdk⟩, hkk⟩ := hrel
          have HDK := Lib.hid hdk; have HKK := Lib.hid hkk
          clear hdk hkk
          by_cases hlt1 : k < ls.length
          · obtain ⟨x, hx⟩ : ∃ x, ls[k]? = some x := ⟨_, List.getElem?_eq_getElem hlt1⟩
            have hxl := HX.out x (List.mem_of_getElem? hx)
            have HTK : Hid ((ls.take (k + 1)).foldl syncF dk.fs = syncF ((ls.take k).foldl syncF dk.fs) x) := Lib.hid (by rw [List.take_add_one, hx]; simp)
            obtain ⟨A', c', e, _, hget⟩ := (HV1.out.keep HKK.out fun j h e => e.elim (hF j h).1 (hF j h).2).open1
            cases e
            obtain ⟨gb, off, e', hgb, hgx⟩ := hget k hlt1
            subst e'
            have d0 : wr.cell? ⟨gb, off + k, none⟩ = some (.string (ofL x)) := hgx k x hx
            have HXM := Lib.hid (HA.out x (List.mem_of_getElem? hx))
            clear hgx hget hx
            obtain ⟨X, hX⟩ : ∃ X, ofL x = X := ⟨_, rfl⟩
            have hXs : X.size ≤ 1000000 := by rw [← hX, ofL_size]; exact hxl
            have HXX : Hid (toL X = x) := Lib.hid (by rw [← hX, toL_ofL])
            rw [hX] at d0
            clear hX
            have hlk := HDK.out.lookup1 hXs
            rw [HXX.out] at hlk
            obtain ⟨fs, hfs⟩ : ∃ fs, (ls.take k).foldl syncF dk.fs = fs := ⟨_, rfl⟩
            have hsome : (look fs x).isSome = true := by
              rw [look_isSome, ← hfs, names_sync, ← look_isSome]; exact HXM.out
            rw [hfs] at HDK HTK
            clear hfs
            obtain ⟨f, hf⟩ := Option.isSome_iff_exists.1 hsome
            obtain ⟨fb, v, hg, hfi⟩ := HDK.out.gsome hf
            rw [hg] at hlk
            replace hlk : (Instr.lookup 59 (.map mv') (.string X) false).run Try.prog wr = .ok (.pointer (some ⟨fb, 0, none⟩)) wr := hlk
            have c1 := blk_cell HDK.out.blk 1
            simp only [dcells, List.getElem?_toArray, List.getElem?_cons_zero, List.getElem?_cons_succ] at c1
            have hltd := HDK.out.lt
            have HFI := Lib.hid hfi; have HG := Lib.hid hg; have HL := Lib.hid hf
            clear hfi hg hf hsome
            go_wp2_with fail
            refine (sync_any HFI.out).mono ?_
            rintro e w2 ⟨rfl, hf2, hk2⟩
            have HF2 := Lib.hid hf2; have HK2 := Lib.hid hk2
            clear hf2 hk2
            go_wp2_with fail
            have hfn := (look_some HL.out).2
            have hds := HDK.out.setFile (f := f) (f' := { f with sy := f.b.length }) (by show look fs f.name = some f; rw [hfn]; exact HL.out) (by show g' f.name = some fb; rw [hfn]; exact HG.out)
              (HK2.out.mono fun k _ e => by rw [e]; exact ⟨HFI.out.inF.1, by rw [HFI.out.inF.2, ← hfn]⟩) (HF2.out.mono fun k _ h => .inl ⟨h.1, by rw [h.2, ← hfn]⟩) (Nat.le_refl _)
            have hws := HKK.out.size
            have hfb : fb < wr.heap.size := HFI.out.lt
            have hsy : syncF fs x = setF fs { f with sy := f.b.length } := by unfold syncF; rw [HL.out]
            go_roundw
            case rel =>
              refine ⟨k + 1, by omega, by go_num, ?_, HKK.out.trans HK2.out fun j hj e => ?_⟩
              · rw [HTK.out, hsy]
                exact ⟨_, _, _, hds.mono (fun j _ h => by
                  rcases h with h | h
                  · exact h
                  · exact .inr (by omega)) fun h => h.elim (fun h => H.out.out h.1) fun h => by have := HD1.out.lt; omega⟩
              · rcases HFI.out.inF.1 with h | h
                · exact .inl (e ▸ h.1)
                · omega
            case measure => simp [intOf]; omega
          · obtain rfl : k = ls.length := by omega
            rw [List.take_length] at HDK
            go_wp2_with fail
            go_ret
            exact hR _ _ ⟨rfl, ⟨g', tag', mv', HDK.out.mono (fun j _ h => h.imp (fun h => h.1) fun h => Nat.le_trans HK1.out.size h) fun h => h.elim H.out.out fun h => by have := HDL.out; omega⟩, HKA.out.trans HKK.out fun _ _ h => h⟩
end
end Go.Proofs.Ytlfcbhagbdonhaa.Asc
