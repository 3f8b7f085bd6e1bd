/-
  Contracts: a file is read; opened, named, cut, removed; files are synced.
  Lengths within the rows' own reach.
-/
import Derived.Test.YtlfcbhagbdonhaaDkG
namespace Go.Proofs.Ytlfcbhagbdonhaa.Asc
set_option linter.unusedSimpArgs false
set_option linter.unusedVariables false
open Go Go.RowKit Go.Proofs.Ytlfcbhagbdonhaa.Pb

section
variable {w : World} {S : Nat → Prop} {d : Nat} {dk : Dk} {g : Tx → Option Nat} {tag : Nat → Option Tx} {mv : Option Nat}
set_option maxHeartbeats 1000000 in
theorem read_any (h : DIn w S d dk g tag mv) (T : ByteArray) (hT : T.size ≤ 1000000) (hl : ∀ f ∈ dk.fs, f.b.length ≤ 140737488351232) :
    Calls Try.prog 14 #[.pointer (some ⟨d, 0, none⟩), .string T] w fun e w' =>
      ∃ u, e = .returned (.tuple #[u, .int .i64 (match look dk.fs (toL T) with | none => 4 | some _ => 0)]) ∧ Own Rp.u8 5 w' (w.heap.size ≤ ·) (match look dk.fs (toL T) with | none => [] | some f => f.b) u ∧ Below w.heap.size w w' := by
  refine calls_gen fun R hR => ?_
  have c1 := blk_cell h.blk 1
  simp only [dcells, List.getElem?_toArray, List.getElem?_cons_zero, List.getElem?_cons_succ] at c1
  have hlt := h.lt
  have hlk := h.lookup1 hT
  cases hlo : look dk.fs (toL T) with
  | none =>
    rw [h.gnone hlo] at hlk
    replace hlk : (Instr.lookup 59 (.map mv) (.string T) false).run Try.prog w = .ok (.pointer none) w := hlk
    rw [hlo] at hR
    clear h hl hlo
    go_enter Try.func14, Try.ntmps14
    go_wp2_with fail
    go_ret2
    exact hR _ _ ⟨_, rfl, Own.nil _ _ _ _, Below.refl _ _⟩
  | some f =>
    obtain ⟨fb, v, hg, hfi⟩ := h.gsome hlo
    rw [hg] at hlk
    replace hlk : (Instr.lookup 59 (.map mv) (.string T) false).run Try.prog w = .ok (.pointer (some ⟨fb, 0, none⟩)) w := hlk
    have HLF := Lib.hid (hl f (look_some hlo).1)
    rw [hlo] at hR
    obtain ⟨VA, vc, rfl, hvc⟩ := hfi.own.slice
    have c0 := blk_cell hfi.blk 0
    simp only [List.getElem?_toArray, List.getElem?_cons_zero] at c0
    have hltf := hfi.lt
    have HFI := Lib.hid hfi
    clear h hl hlo hg hfi
    go_enter Try.func14, Try.ntmps14
    go_wp2_with fail
    refine (clone_any f.b _ _ w HFI.out.own.view HLF.out).mono ?_
    rintro e w2 ⟨u, rfl, ho, hb⟩
    have HO := Lib.hid ho; have HB := Lib.hid hb
    clear ho hb
    go_wp2_with fail
    go_ret2
    exact hR _ _ ⟨u, rfl, HO.out, HB.out⟩

set_option maxHeartbeats 1000000 in
theorem opened_any (h : DIn w S d dk g tag mv) (ho : dk.ops ≤ 1000000) (T : ByteArray) (hT : T.size ≤ 1000000) :
    Calls Try.prog 40 #[.pointer (some ⟨d, 0, none⟩), .string T] w fun e w' =>
      e = .returned (.tuple #[ptrOf (if dk.off then none else g (toL T)), .int .i64 (if dk.off then 6 else if (look dk.fs (toL T)).isNone then 4 else 0)]) ∧ DIn w' S d dk.tick g tag mv ∧ Keep (fun k => k = d) w w' := by
  refine calls_gen fun R hR => ?_
  have H := Lib.hid h
  have hlt := h.lt
  clear h
  go_enter Try.func40, Try.ntmps40
  go_wp2_with fail
  refine (op_any H.out ho).mono ?_
  rintro e w1 ⟨rfl, hd1, hk1⟩
  have HD1 := Lib.hid hd1; have HK1 := Lib.hid hk1
  cases hoff : dk.off with
  | true =>
    rw [hoff] at hR
    clear hd1 hk1
    go_wp2_with fail
    go_ret2
    exact hR _ _ ⟨rfl, HD1.out, HK1.out⟩
  | false =>
    rw [hoff] at hR
    have c1 := blk_cell hd1.blk 1
    simp only [dcells, List.getElem?_toArray, List.getElem?_cons_zero, List.getElem?_cons_succ] at c1
    have hlt1 := hd1.lt
    have hlk := hd1.lookup2 hT
    cases hlo : look dk.fs (toL T) with
    | none =>
      have hgn : g (toL T) = none := hd1.gnone hlo
      rw [hgn] at hlk hR
      replace hlk : (Instr.lookup 59 (.map mv) (.string T) true).run Try.prog w1 = .ok (.tuple #[.pointer none, .bool false]) w1 := hlk
      rw [hlo] at hR
      clear hd1 hk1 hlo hgn
      go_wp2_with fail
      go_ret2
      exact hR _ _ ⟨rfl, HD1.out, HK1.out⟩
    | some f =>
      obtain ⟨fb, v, hg, hfi⟩ := HD1.out.gsome hlo
      rw [hg] at hlk hR
      replace hlk : (Instr.lookup 59 (.map mv) (.string T) true).run Try.prog w1 = .ok (.tuple #[.pointer (some ⟨fb, 0, none⟩), .bool true]) w1 := hlk
      rw [hlo] at hR
      clear hd1 hk1 hlo hg hfi
      go_wp2_with fail
      go_ret2
      exact hR _ _ ⟨rfl, HD1.out, HK1.out⟩

set_option maxHeartbeats 2000000 in
theorem truncate_any (h : DIn w S d dk g tag mv) (ho : dk.ops ≤ 1000000) (T : ByteArray) (hT : T.size ≤ 1000000) (n : Int) :
    Calls Try.prog 23 #[.pointer (some ⟨d, 0, none⟩), .string T, .int .i64 n] w fun e w' =>
      e = .returned (.int .i64 (dk.truncate (toL T) n).1) ∧ DAt w' (fun k => S k ∨ w.heap.size ≤ k) d (dk.truncate (toL T) n).2 ∧ Keep (fun k => S k ∨ k = d) w w' := by
  refine calls_gen fun R hR => ?_
  have H := Lib.hid h
  have hlt := h.lt
  have HDL : Hid (d < w.heap.size) := Lib.hid hlt
  clear h
  go_enter Try.func23, Try.ntmps23
  go_wp2_with fail
  refine (opened_any H.out ho T hT).mono ?_
  rintro e w1 ⟨rfl, hd1, hk1⟩
  have HD1 := Lib.hid hd1; have HK1 := Lib.hid hk1
  have HST : Hid (DAt w1 (fun k => S k ∨ w.heap.size ≤ k) d dk.tick) := Lib.hid ⟨g, tag, mv, hd1.mono (fun _ _ h => .inl h) fun h => h.elim H.out.out fun h => by omega⟩
  clear hd1 hk1
  cases hoff : dk.off with
  | true =>
    have hw : dk.truncate (toL T) n = (6, dk.tick) := by unfold Dk.truncate; rw [if_pos hoff]
    rw [hw] at hR
    clear hw
    simp only [if_true, ptrOf]
    go_wp2_with fail
    go_ret
    exact hR _ _ ⟨rfl, HST.out, HK1.out.mono fun _ _ h => .inr h⟩
  | false =>
    simp only [Bool.false_eq_true, if_false]
    cases hlo : look dk.fs (toL T) with
    | none =>
      have hgn : g (toL T) = none := HD1.out.gnone hlo
      have hw : dk.truncate (toL T) n = (4, dk.tick) := by unfold Dk.truncate; rw [if_neg (by rw [hoff]; decide), hlo]
      rw [hw] at hR
      simp only [hgn, Option.isNone_none, if_true, ptrOf]
      clear hw hgn hlo
      go_wp2_with fail
      go_ret
      exact hR _ _ ⟨rfl, HST.out, HK1.out.mono fun _ _ h => .inr h⟩
    | some f =>
      obtain ⟨fb, v, hg, hfi⟩ := HD1.out.gsome hlo
      have hw : dk.truncate (toL T) n = if n < 0 ∨ n > f.b.length then (1, dk.tick) else (0, { dk.tick with fs := setF dk.fs { f with b := f.b.take n.toNat, sy := min f.sy n.toNat } }) := by
        unfold Dk.truncate; rw [if_neg (by rw [hoff]; decide), hlo]
      rw [hw] at hR
      simp only [hg, Option.isNone_some, Bool.false_eq_true, if_false, ptrOf]
      obtain ⟨VA, vc, rfl, hvc⟩ := hfi.own.slice
      have c0 := blk_cell hfi.blk 0
      simp only [List.getElem?_toArray, List.getElem?_cons_zero] at c0
      have hltf := hfi.lt
      have HFI := Lib.hid hfi; have HG := Lib.hid hg; have HL := Lib.hid hlo
      clear hw hg hlo hfi
      by_cases hn0 : n < 0
      · rw [if_pos (.inl hn0)] at hR
        go_wp2_with fail
        go_ret
        exact hR _ _ ⟨rfl, HST.out, HK1.out.mono fun _ _ h => .inr h⟩
      by_cases hn1 : n > (f.b.length : Int)
      · rw [if_pos (.inr hn1)] at hR
        go_wp2_with fail
        go_ret
        exact hR _ _ ⟨rfl, HST.out, HK1.out.mono fun _ _ h => .inr h⟩
      rw [if_neg (by omega)] at hR
      obtain ⟨m, rfl⟩ := Int.eq_ofNat_of_zero_le (show 0 ≤ n by omega)
      have hsy := H.out.ok.sy f (look_some HL.out).1
      go_wp2_with fail
      refine (cutf_any HFI.out m (by omega) hsy).mono ?_
      rintro e w2 ⟨rfl, v2, hf2, hk2⟩
      have HF2 := Lib.hid hf2; have HK2 := Lib.hid hk2
      clear hf2 hk2
      go_wp2_with fail
      go_ret
      have hfn := (look_some HL.out).2
      have hds := HD1.out.setFile (f := f) (f' := { f with b := f.b.take m, sy := min f.sy m }) (by show look dk.fs f.name = some f; rw [hfn]; exact HL.out) (by show g f.name = some fb; rw [hfn]; exact HG.out)
        (HK2.out.mono fun k _ e => by rw [e]; exact ⟨HFI.out.inF.1, by rw [HFI.out.inF.2, ← hfn]⟩) (HF2.out.mono fun k _ h => .inl ⟨h.1, by rw [h.2, ← hfn]⟩) (by dsimp only; rw [List.length_take]; omega)
      exact hR _ _ ⟨rfl, ⟨_, _, _, hds.mono (fun k _ h => h.imp id fun h => by have := HK1.out.size; omega) fun h => h.elim H.out.out fun h => by have := HDL.out; omega⟩,
        (HK1.out.mono fun _ _ h => .inr h).trans HK2.out fun k _ e => .inl (by rw [e]; exact HFI.out.inF.1)⟩
set_option maxHeartbeats 2000000 in
theorem remove_any (h : DIn w S d dk g tag mv) (ho : dk.ops ≤ 1000000) (T : ByteArray) (hT : T.size ≤ 1000000) :
    Calls Try.prog 19 #[.pointer (some ⟨d, 0, none⟩), .string T] w fun e w' =>
      e = .returned (.int .i64 (dk.remove (toL T)).1) ∧ DAt w' (fun k => S k ∨ w.heap.size ≤ k) d (dk.remove (toL T)).2 ∧ Keep (fun k => S k ∨ k = d) w w' := by
  refine calls_gen fun R hR => ?_
  have H := Lib.hid h
  have hlt := h.lt
  have HDL : Hid (d < w.heap.size) := Lib.hid hlt
  clear h
  go_enter Try.func19, Try.ntmps19
  go_wp2_with fail
  refine (opened_any H.out ho T hT).mono ?_
  rintro e w1 ⟨rfl, hd1, hk1⟩
  have HD1 := Lib.hid hd1; have HK1 := Lib.hid hk1
  have HST : Hid (DAt w1 (fun k => S k ∨ w.heap.size ≤ k) d dk.tick) := Lib.hid ⟨g, tag, mv, hd1.mono (fun _ _ h => .inl h) fun h => h.elim H.out.out fun h => by omega⟩
  clear hd1 hk1
  cases hoff : dk.off with
  | true =>
    have hw : dk.remove (toL T) = (6, dk.tick) := by unfold Dk.remove; rw [if_pos hoff]
    rw [hw] at hR
    clear hw
    simp only [if_true, ptrOf]
    go_wp2_with fail
    go_ret
    exact hR _ _ ⟨rfl, HST.out, HK1.out.mono fun _ _ h => .inr h⟩
  | false =>
    simp only [Bool.false_eq_true, if_false]
    cases hlo : look dk.fs (toL T) with
    | none =>
      have hgn : g (toL T) = none := HD1.out.gnone hlo
      have hw : dk.remove (toL T) = (4, dk.tick) := by unfold Dk.remove; rw [if_neg (by rw [hoff]; decide), hlo]
      rw [hw] at hR
      simp only [hgn, Option.isNone_none, if_true, ptrOf]
      clear hw hgn hlo
      go_wp2_with fail
      go_ret
      exact hR _ _ ⟨rfl, HST.out, HK1.out.mono fun _ _ h => .inr h⟩
    | some f =>
      obtain ⟨fb, v, hg, hfi⟩ := HD1.out.gsome hlo
      have hw : dk.remove (toL T) = (0, { dk.tick with fs := dropF dk.fs (toL T) }) := by
        unfold Dk.remove; rw [if_neg (by rw [hoff]; decide), hlo]
      rw [hw] at hR
      cases mv with
      | none => rw [(HD1.out.nomap rfl).2] at hg; cases hg
      | some mb =>
      obtain ⟨w2, hrun, hm2, ht2⟩ := (HD1.out.map mb rfl).1.drop hT 0
      have hds := HD1.out.dropFile (n := toL T) (turned_keep ht2) hm2
      have HDS := Lib.hid hds; have HK2 := Lib.hid (turned_keep ht2)
      have HMS : Hid (S mb) := Lib.hid (HD1.out.map mb rfl).2.1
      have c1 := blk_cell HD1.out.blk 1
      simp only [dcells, List.getElem?_toArray, List.getElem?_cons_zero, List.getElem?_cons_succ] at c1
      have hlt1 := HD1.out.lt
      simp only [hg, Option.isNone_some, Bool.false_eq_true, if_false, ptrOf]
      clear hw hg hlo hfi hm2 ht2 hds
      go_wp2_with fail
      go_ret
      exact hR _ _ ⟨rfl, ⟨_, _, _, HDS.out.mono (fun k _ h => .inl h) fun h => h.elim H.out.out fun h => by have := HDL.out; omega⟩,
        (HK1.out.mono fun _ _ h => .inr h).trans HK2.out fun k _ e => .inl (by rw [e]; exact HMS.out)⟩

set_option maxHeartbeats 4000000 in
theorem rename_any (h : DIn w S d dk g tag mv) (ho : dk.ops ≤ 1000000) (hlen : dk.fs.length ≤ 1000) (T V : ByteArray) (hT : T.size ≤ 1000000) (hV : V.size ≤ 1000000) :
    Calls Try.prog 22 #[.pointer (some ⟨d, 0, none⟩), .string T, .string V] w fun e w' =>
      e = .returned (.int .i64 (dk.rename (toL T) (toL V)).1) ∧ DAt w' (fun k => S k ∨ w.heap.size ≤ k) d (dk.rename (toL T) (toL V)).2 ∧ Keep (fun k => S k ∨ k = d) w w' := by
  refine calls_gen fun R hR => ?_
  have H := Lib.hid h
  have hlt := h.lt
  have HDL : Hid (d < w.heap.size) := Lib.hid hlt
  clear h
  go_enter Try.func22, Try.ntmps22
  go_wp2_with fail
  refine (opened_any H.out ho T hT).mono ?_
  rintro e w1 ⟨rfl, hd1, hk1⟩
  have HD1 := Lib.hid hd1; have HK1 := Lib.hid hk1
  have HST : Hid (DAt w1 (fun k => S k ∨ w.heap.size ≤ k) d dk.tick) := Lib.hid ⟨g, tag, mv, hd1.mono (fun _ _ h => .inl h) fun h => h.elim H.out.out fun h => by omega⟩
  clear hd1 hk1
  cases hoff : dk.off with
  | true =>
    have hw : dk.rename (toL T) (toL V) = (6, dk.tick) := by unfold Dk.rename; rw [if_pos hoff]
    rw [hw] at hR
    clear hw
    simp only [if_true, ptrOf]
    go_wp2_with fail
    go_ret
    exact hR _ _ ⟨rfl, HST.out, HK1.out.mono fun _ _ h => .inr h⟩
  | false =>
    simp only [Bool.false_eq_true, if_false]
    cases hlo : look dk.fs (toL T) with
    | none =>
      have hgn : g (toL T) = none := HD1.out.gnone hlo
      have hw : dk.rename (toL T) (toL V) = (4, dk.tick) := by unfold Dk.rename; rw [if_neg (by rw [hoff]; decide), hlo]
      rw [hw] at hR
      simp only [hgn, Option.isNone_none, if_true, ptrOf]
      clear hw hgn hlo
      go_wp2_with fail
      go_ret
      exact hR _ _ ⟨rfl, HST.out, HK1.out.mono fun _ _ h => .inr h⟩
    | some f =>
      obtain ⟨fb, v, hg, hfi⟩ := HD1.out.gsome hlo
      have hw : dk.rename (toL T) (toL V) = if badName (toL V) then (1, dk.tick) else (0, { dk.tick with fs := putF (dropF (dropF dk.fs (toL T)) (toL V)) { f with name := toL V } }) := by
        unfold Dk.rename; rw [if_neg (by rw [hoff]; decide), hlo]
      rw [hw] at hR
      simp only [hg, Option.isNone_some, Bool.false_eq_true, if_false, ptrOf]
      have HG := Lib.hid hg; have HL := Lib.hid hlo
      clear hw hlo hfi
      go_wp2_with fail
      refine (may_any V w1 (by omega)).mono ?_
      rintro e w2 ⟨rfl, hw2⟩
      rw [hw2]
      clear hw2
      cases hbad : badName (toL V) with
      | true =>
        rw [hbad, if_pos rfl] at hR
        clear hg
        go_wp2_with fail
        go_ret
        exact hR _ _ ⟨rfl, HST.out, HK1.out.mono fun _ _ h => .inr h⟩
      | false =>
        rw [hbad, if_neg (by decide)] at hR
        cases mv with
        | none => rw [(HD1.out.nomap rfl).2] at hg; cases hg
        | some mb =>
        have hlen1 : dk.tick.fs.length = dk.fs.length := rfl
        obtain ⟨w2, hrun, hm2, ht2⟩ := (HD1.out.map mb rfl).1.drop hT 0
        rw [hlen1] at hm2
        have hlen2 : (if (g (toL T)).isSome then dk.fs.length - 1 else dk.fs.length) = (dropF dk.fs (toL T)).length := by
          rw [dropF_len H.out.ok.ord, HD1.out.hasg]; rfl
        rw [hlen2] at hm2
        have hdl := dropF_len H.out.ok.ord (toL T)
        have hdl1 : (dropF dk.fs (toL T)).length < 1000000 := by rw [hdl]; split <;> omega
        obtain ⟨w3, hrun3, hm3, ht3⟩ := hm2.store hdl1 hV fb
        have hlen3 : (if (upd g (toL T) none (toL V)).isSome then (dropF dk.fs (toL T)).length else (dropF dk.fs (toL T)).length + 1) = (dropF (dropF dk.fs (toL T)) (toL V)).length + 1 := by
          have hds := HD1.out.dropFile (n := toL T) (turned_keep ht2) (by rw [hlen1, hlen2]; exact hm2)
          have hh := hds.hasg (toL V)
          rw [hh, dropF_len (H.out.ok.ord.drop (toL T))]
          show (if (look (dropF dk.fs (toL T)) (toL V)).isSome then _ else _) = _
          cases hlv : look (dropF dk.fs (toL T)) (toL V) with
          | none => simp
          | some x =>
            have : 0 < (dropF dk.fs (toL T)).length := List.length_pos_of_mem (look_some hlv).1
            simp; omega
        rw [hlen3] at hm3
        have hk23 : Keep (fun k => k = mb) w1 w3 := (turned_keep ht2).trans (turned_keep ht3) fun _ _ h => h
        have hds := HD1.out.moveFile (a := toL T) (b := toL V) HL.out HG.out hk23 hm3 hbad
        have HDS := Lib.hid hds; have HK2 := Lib.hid hk23
        have HMS : Hid (S mb) := Lib.hid (HD1.out.map mb rfl).2.1
        have c1 := blk_cell HD1.out.blk 1
        have c1' := (turned_keep ht2).cell c1 (by show ¬ d = mb; intro e; exact HD1.out.out (e ▸ HMS.out))
        simp only [dcells, List.getElem?_toArray, List.getElem?_cons_zero, List.getElem?_cons_succ] at c1 c1'
        have hlt1 := HD1.out.lt
        have hlt2 := Nat.lt_of_lt_of_le hlt1 (turned_keep ht2).size
        clear hg hm2 ht2 hds hm3 ht3 hk23 hlen1 hlen2 hlen3 hdl hdl1
        go_wp2_with fail
        go_ret
        exact hR _ _ ⟨rfl, ⟨_, _, _, HDS.out.mono (fun k _ h => .inl h) fun h => h.elim H.out.out fun h => by have := HDL.out; omega⟩,
          (HK1.out.mono fun _ _ h => .inr h).trans HK2.out fun k _ e => .inl (by rw [e]; exact HMS.out)⟩
end
end Go.Proofs.Ytlfcbhagbdonhaa.Asc
