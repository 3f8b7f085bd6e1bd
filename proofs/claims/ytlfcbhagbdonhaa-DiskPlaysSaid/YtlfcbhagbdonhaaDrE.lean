/-
  Contract: files of the document's disk are synced.
  Lengths within the rows' own reach.
-/
import Derived.Test.YtlfcbhagbdonhaaDrD
namespace Go.Proofs.Ytlfcbhagbdonhaa.Asc
set_option linter.unusedSimpArgs false
set_option linter.unusedVariables false
open Go Go.RowKit Go.Proofs.Ytlfcbhagbdonhaa.Pb

theorem set_pos : ∀ {fs : List Fl} {n : Tx} {k : Nat} {f' : Fl}, Ord fs → pos fs n = some k → f'.name = n → fs.set k f' = setF fs f'
  | [], n, k, f', _, h, _ => by cases h
  | f :: fs, n, k, f', ho, h, hn => by
    have h' : (∀ x ∈ names fs, f.name < x) ∧ Ord fs := List.pairwise_cons.1 ho
    unfold pos at h
    by_cases e : f.name = n
    · rw [if_pos e] at h
      cases h
      have hid : fs.map (fun g => if g.name == f'.name then f' else g) = fs := by
        conv => rhs; rw [← List.map_id fs]
        refine List.map_congr_left fun x hx => ?_
        rw [if_neg (by
          have := h'.1 x.name (List.mem_map.2 ⟨x, hx, rfl⟩)
          rw [hn]
          intro e2
          have e2 : x.name = n := by simpa using e2
          rw [e, e2] at this; exact List.lt_irrefl _ this)]; rfl
      show f' :: fs = setF (f :: fs) f'
      unfold setF
      rw [List.map_cons, hid, if_pos (by rw [hn, e]; simp)]
    · rw [if_neg e] at h
      cases hp : pos fs n with
      | none => rw [hp] at h; cases h
      | some j =>
        rw [hp] at h
        cases h
        have ih := set_pos h'.2 hp hn
        show f :: fs.set j f' = setF (f :: fs) f'
        rw [ih]
        unfold setF
        rw [List.map_cons, if_neg (by rw [hn]; simpa using e)]

section
variable {w w' : World} {F : Nat → Prop} {b : Nat} {dk : Dk} {lv : Value} {last : Int}
theorem RIn.row1 {fs' : List Fl} {lv' : Value} (h : RIn w F b dk lv last) (hk : Keep (fun j => F j) w w') (ho : Own rfE 95 w' F fs' lv) (hl : lv = lv') : RIn w' F b { dk with fs := fs' } lv' last :=
  hl ▸ ⟨hk.blk h.blk h.out, ho, h.out, h.lok⟩
set_option maxHeartbeats 4000000 in
set_option maxRecDepth 20000 in
theorem rsync_step (h : RIn w F b dk lv last) (k : Nat) (x : Fl) (hx : dk.fs[k]? = some x) : ∃ g c B c', lv = .slice (some ⟨g, 0, none⟩) dk.fs.length c ∧ F g ∧ g < w.heap.size ∧ k < dk.fs.length ∧ dk.fs.length ≤ c ∧
    w.cell? ⟨g, k * 3 + 1, none⟩ = some (.slice B x.b.length c') ∧ (∃ u, w.cell? ⟨g, k * 3 + 2, none⟩ = some u) ∧ w.frozen? ⟨g, k * 3 + 2, none⟩ = false ∧
    RIn (w.setCell ⟨g, k * 3 + 2, none⟩ (.int .i64 x.b.length)) F b { dk with fs := dk.fs.set k { x with sy := x.b.length } } lv last ∧ Keep (fun j => F j) w (w.setCell ⟨g, k * 3 + 2, none⟩ (.int .i64 x.b.length)) := by
  have hk : k < dk.fs.length := (List.getElem?_eq_some_iff.1 hx).1
  have hne : dk.fs ≠ [] := by intro e; rw [e] at hk; simp at hk
  have hxe : dk.fs[k] = x := by rw [List.getElem?_eq_getElem hk] at hx; exact Option.some.inj hx
  obtain ⟨A, c, e1, hc, hget⟩ := rf_get h.row.view
  obtain ⟨g, off, e2, hgl, hgF, hgx⟩ := hget k hk
  obtain ⟨B, c', hv, hc', d0, d1, d2⟩ := hgx x hx
  have ho := h.row
  obtain ⟨g', cap, cur, cells, e3, hFg, hgb, hlc, hcm, -⟩ := ho.block hne
  rw [e1, e2] at e3
  cases e3
  rw [Nat.zero_add] at d0 d1 d2
  subst e2
  subst e1
  have hs := own_setS ho k hk x.b.length
  rw [hxe] at hs
  have hk3 : Keep (fun j => F j) w (w.setCell ⟨g, k * 3 + 2, none⟩ (.int .i64 x.b.length)) := (Keep.refl (fun j => F j) w).set (p := ⟨g, k * 3 + 2, none⟩) hFg _
  exact ⟨g, c, B, c', rfl, hFg, hgl, hk, hc, d1, ⟨_, d2⟩, blk_free hgb _, h.row1 hk3 hs rfl, hk3⟩

set_option maxHeartbeats 4000000 in
set_option maxRecDepth 20000 in
theorem rsync_any (h : RIn w F b dk lv last) (hok : dk.Ok) (ho : dk.ops ≤ 1000000) (hlen : dk.fs.length ≤ 1000) (hfl : ∀ f ∈ dk.fs, f.b.length ≤ 140737488351232) (ls : List Tx) (sv : Value) (G : Nat → Prop) (hv : View Rp.str w G ls sv) (hG : ∀ k, G k → ¬ F k ∧ k ≠ b) (hls : ls.length ≤ 1000000) (hlx : ∀ x ∈ ls, x.length ≤ 1000000) :
    Calls Try.prog 42 #[.pointer (some ⟨b, 0, none⟩), sv] w fun e w' =>
      e = .returned (.int .i64 (dk.sync ls).1) ∧ RAt w' F b (dk.sync ls).2 ∧ Keep (fun k => F k ∨ k = b) w w' := by
  refine calls_gen fun R hR => ?_
  obtain ⟨A, c, rfl, hc, _⟩ := hv.open1
  have H := Lib.hid h; have HV := Lib.hid hv; have HX := Lib.hid hlx; have HOK := Lib.hid hok; have HFL := Lib.hid hfl
  have hltb := h.lt
  clear h hv hlx hok hfl
  go_enter Try.func42, Try.ntmps42
  go_wp2_with fail
  refine (off_any H.out ho).mono ?_
  rintro e w1 ⟨rfl, h1, hk1⟩
  have H1 := Lib.hid h1; have HK1 := Lib.hid hk1
  have HKA : Hid (Keep (fun k => F k ∨ k = b) w w1) := Lib.hid (hk1.mono fun _ _ h => .inr h)
  have HV1 : Hid (View Rp.str w1 G ls (.slice A ls.length c)) := Lib.hid (HV.out.keep hk1 fun k h e => (hG k h).2 e)
  clear h1 hk1
  cases hoff : dk.off with
  | true =>
    have hw : dk.sync ls = (6, dk.tick) := by unfold Dk.sync; rw [if_pos hoff]
    rw [hw] at hR
    clear hw
    go_wp2_with fail
    go_ret
    exact hR _ _ ⟨rfl, ⟨lv, last, H1.out⟩, HKA.out⟩
  | false =>
    have hw : dk.sync ls = if ls.any (fun n => (look dk.fs n).isNone) then (4, dk.tick) else (0, { dk.tick with fs := ls.foldl syncF dk.fs }) := by
      unfold Dk.sync; rw [if_neg (by rw [hoff]; decide)]
    rw [hw] at hR
    clear hw
    go_wp2_with fail
    go_loopw [5] (fun i wr => ∃ k : Nat, k ≤ ls.length ∧ i = .int .i64 k ∧ wr = w1 ∧ ∀ n ∈ ls.take k, (look dk.fs n).isSome = true) (fun i _ => ls.length - (intOf i).toNat)
    case atStart => exact ⟨0, Nat.zero_le _, rfl, rfl, by simp⟩
    case round =>
      obtain ⟨k, hk, rfl, hwr, hall⟩ := hrel
      rw [hwr]
      have HWR := Lib.hid hwr; have HA := Lib.hid hall
      clear hwr hall
      by_cases hlt1 : k < ls.length
      · obtain ⟨x, hx⟩ : ∃ x, ls[k]? = some x := ⟨_, List.getElem?_eq_getElem hlt1⟩
        have hxl := HX.out x (List.mem_of_getElem? hx)
        have HTK : Hid (ls.take (k + 1) = ls.take k ++ [x]) := Lib.hid (by rw [List.take_add_one, hx]; rfl)
        obtain ⟨A', c', e, _, hget⟩ := HV1.out.open1
        cases e
        obtain ⟨gb, off, rfl, hgb, hgx⟩ := hget k hlt1
        have d0 : w1.cell? ⟨gb, off + k, none⟩ = some (.string (ofL x)) := hgx k x hx
        have HXM : Hid (x ∈ ls) := Lib.hid (List.mem_of_getElem? hx)
        clear hgx hget hx
        obtain ⟨X, hX⟩ : ∃ X, ofL x = X := ⟨_, rfl⟩
        have hXs : X.size ≤ 1000000 := by rw [← hX, ofL_size]; exact hxl
        have HXX : Hid (toL X = x) := Lib.hid (by rw [← hX, toL_ofL])
        rw [hX] at d0
        clear hX
        go_wp2_with fail
        refine (find_any H1.out X hXs hlen).mono ?_
        rintro e w2 ⟨rfl, hw2⟩
        rw [hw2, HXX.out, show dk.tick.fs = dk.fs from rfl]
        clear hw2
        have hp := pos_look (fs := dk.fs) (n := x)
        cases hpo : pos dk.fs x with
        | none =>
          rw [hpo] at hp
          have hany : ls.any (fun n => (look dk.fs n).isNone) = true := List.any_eq_true.2 ⟨x, HXM.out, by rw [show look dk.fs x = none from hp]; rfl⟩
          rw [if_pos hany] at hR
          clear hany hp hpo
          unfold posV
          go_wp2_with fail
          go_ret
          exact hR _ _ ⟨rfl, ⟨lv, last, H1.out⟩, HKA.out⟩
        | some j =>
          rw [hpo] at hp
          obtain ⟨y, _, _, hly⟩ := hp
          have HLY : Hid ((look dk.fs x).isSome = true) := Lib.hid (by rw [hly]; rfl)
          have hnn : ¬ (j : Int) < 0 := by omega
          clear hly hpo
          unfold posV
          go_wp2_with fail
          go_roundw
          case rel => exact ⟨k + 1, by omega, by go_num, by first | trivial | rfl | exact HWR.out, fun n hn => by
            rw [HTK.out, List.mem_append, List.mem_singleton] at hn
            rcases hn with hn | rfl
            · exact HA.out n hn
            · exact HLY.out⟩
          case measure => simp [intOf]; omega
      · obtain rfl : k = ls.length := by omega
        rw [List.take_length] at HA
        have hany : ¬ ls.any (fun n => (look dk.fs n).isNone) = true := fun h => by
          obtain ⟨n, hn, h⟩ := List.any_eq_true.1 h
          have := HA.out n hn
          cases hl : look dk.fs n with
          | none => rw [hl] at this; cases this
          | some f => rw [hl] at h; cases h
        rw [if_neg hany] at hR
        clear hany
        go_wp2_with fail
        go_loopw [6] (fun i wr => ∃ k : Nat, k ≤ ls.length ∧ i = .int .i64 k ∧ RIn wr F b { dk.tick with fs := (ls.take k).foldl syncF dk.fs } lv last ∧ Keep (fun j => F j) w1 wr) (fun i _ => ls.length - (intOf i).toNat)
        case atStart => exact ⟨0, Nat.zero_le _, rfl, H1.out, Keep.refl _ _⟩
        case round =>
          obtain ⟨k, hk, rfl, hri, hkk⟩ := hrel
          have HRI := Lib.hid hri; have HKK := Lib.hid hkk
          have hltr := hri.lt
          clear hri hkk
          by_cases hlt1 : k < ls.length
          · obtain ⟨x, hx⟩ : ∃ x, ls[k]? = some x := ⟨_, List.getElem?_eq_getElem hlt1⟩
            have hxl := HX.out x (List.mem_of_getElem? hx)
            have HTK : Hid ((ls.take (k + 1)).foldl syncF dk.fs = syncF ((ls.take k).foldl syncF dk.fs) x) := Lib.hid (by rw [List.take_add_one, hx]; simp)
            obtain ⟨A', c', e, _, hget⟩ := (HV1.out.keep HKK.out fun j h e => (hG j h).1 e).open1
            cases e
            obtain ⟨gb, off, e', hgb, hgx⟩ := hget k hlt1
            subst e'
            have d0 : wr.cell? ⟨gb, off + k, none⟩ = some (.string (ofL x)) := hgx k x hx
            have HXM := Lib.hid (HA.out x (List.mem_of_getElem? hx))
            clear hgx hget hx
            obtain ⟨X, hX⟩ : ∃ X, ofL x = X := ⟨_, rfl⟩
            have hXs : X.size ≤ 1000000 := by rw [← hX, ofL_size]; exact hxl
            have HXX : Hid (toL X = x) := Lib.hid (by rw [← hX, toL_ofL])
            rw [hX] at d0
            clear hX
            obtain ⟨fs, hfs⟩ : ∃ fs, (ls.take k).foldl syncF dk.fs = fs := ⟨_, rfl⟩
            have hnam : names fs = names dk.fs := by rw [← hfs, names_sync]
            have hsome : (look fs x).isSome = true := by rw [look_isSome, hnam, ← look_isSome]; exact HXM.out
            have hOrd : Ord fs := by unfold Ord; rw [hnam]; exact HOK.out.ord
            have hln : fs.length ≤ 1000 := by have := congrArg List.length hnam; simp only [names, List.length_map] at this; omega
            rw [hfs] at HRI HTK
            have HORD := Lib.hid hOrd; have HSM := Lib.hid hsome
            clear hfs hnam hOrd hsome
            go_wp2_with fail
            refine (find_any HRI.out X hXs hln).mono ?_
            rintro e w2 ⟨rfl, hw2⟩
            rw [hw2, HXX.out]
            clear hw2
            have hp := pos_look (fs := fs) (n := x)
            have HSM2 := HSM.out
            cases hpo : pos fs x with
            | none =>
              rw [hpo] at hp
              rw [show look fs x = none from hp] at HSM2
              cases HSM2
            | some j =>
              rw [hpo] at hp
              obtain ⟨y, hy, hyn, hly⟩ := hp
              have HSY : Hid (syncF fs x = fs.set j { y with sy := y.b.length }) := Lib.hid (by
                unfold syncF; rw [hly]
                exact (set_pos (f' := { y with sy := y.b.length }) HORD.out hpo hyn).symm)
              obtain ⟨g, c2, B, cB, hlv, hgF, hgl, hjl, hjc, d1, ⟨u2, d2⟩, f2, hri2, hk2⟩ := rsync_step HRI.out j y hy
              have HRI2 := Lib.hid hri2; have HK2 := Lib.hid hk2; have HGF := Lib.hid hgF
              have c1 : wr.cell? ⟨b, 1, none⟩ = some lv := blk_cell HRI.out.blk 1
              rw [hlv] at c1
              obtain ⟨m, hm⟩ : ∃ m, fs.length = m := ⟨_, rfl⟩
              rw [show ({ dk.tick with fs := fs } : Dk).fs = fs from rfl] at c1 hjl hjc
              rw [hm] at c1 hjl hjc
              have HC1 := Lib.hid c1; have HD1 := Lib.hid d1
              have HY := Lib.hid hy; have HLV := Lib.hid hlv
              clear HSM2 hpo hly hyn hy hri2 hk2 hgF hlv d2 f2
              unfold posV
              have hji : (j : Int) < (m : Int) := by omega
              go_upto_region 12 with fail
              refine wp_region_any (by kernel_rfl) ?_
              refine region_ext [(fun vv _ => vv = .pointer (some ⟨b, 0, none⟩)), (fun vv _ => vv = .pointer (some ⟨b, 0, none⟩)), (fun vv _ => vv = .pointer (some ⟨b, 1, none⟩)), (fun vv _ => vv = .slice (some ⟨g, 0, none⟩) m c2), (fun vv _ => vv = .int .i64 j), (fun vv _ => vv = .pointer (some ⟨b, 0, none⟩)), (fun vv _ => vv = .pointer (some ⟨b, 0, none⟩)), (fun vv _ => vv = .pointer (some ⟨b, 1, none⟩)), (fun vv _ => vv = .slice (some ⟨g, 0, none⟩) m c2), (fun vv _ => vv = .int .i64 j), (fun vv _ => vv = .pointer (some ⟨g, j * 3, none⟩)), (fun vv _ => vv = .pointer (some ⟨g, j * 3 + 1, none⟩)), (fun vv _ => vv = .slice B y.b.length cB), (fun vv _ => vv = .int .i64 y.b.length), (fun vv _ => vv = .pointer (some ⟨g, j * 3, none⟩)), (fun vv _ => vv = .pointer (some ⟨g, j * 3 + 2, none⟩))]
                [[], [(0, 35)], [(1, 36)], [(2, 37)], [], [], [(5, 40)], [(6, 41)], [(7, 42)], [], [(8, 43), (9, 44)], [(10, 45)], [(11, 46)], [(12, 47)], [(3, 38), (4, 39)], [(14, 49)], []]
                [none, none, none, none, none, none, none, none, none, none, none, none, none, none, none, none, none]
                [some 35, some 36, some 37, some 38, some 39, some 40, some 41, some 42, some 43, some 44, some 45, some 46, some 47, some 48, some 49, some 50] 16 (by kernel_rfl) (by kernel_rfl) (by kernel_rfl) rfl (by kernel_rfl) ?_ ?_ ?_
              · exact ⟨fun _ _ _ _ h => h, fun _ _ _ _ h => h, fun _ _ _ _ h => h, fun _ _ _ _ h => h, fun _ _ _ _ h => h, fun _ _ _ _ h => h, fun _ _ _ _ h => h, fun _ _ _ _ h => h, fun _ _ _ _ h => h, fun _ _ _ _ h => h, fun _ _ _ _ h => h, fun _ _ _ _ h => h, fun _ _ _ _ h => h, fun _ _ _ _ h => h, fun _ _ _ _ h => h, fun _ _ _ _ h => h, trivial⟩
              · refine ⟨fun ρ wx _ hx _ => gives_move (hx (.tmp 0) (by simp)), ?_, ?_, ?_, fun ρ wx _ hx _ => gives_move (hx (.tmp 7) (by simp)), fun ρ wx _ hx _ => gives_move (hx (.tmp 0) (by simp)), ?_, ?_, ?_, fun ρ wx _ hx _ => gives_move (hx (.tmp 7) (by simp)), ?_, ?_, ?_, ?_, ?_, ?_, trivial⟩
                · intro ρ wx hE hx hd
                  replace hE := Ext.undrew hE
                  have e35 : ρ (.tmp 35) = .pointer (some ⟨b, 0, none⟩) := hd.1
                  exact gives_val (G := fun vv _ => vv = .pointer (some ⟨b, 0, none⟩)) (v := .pointer (some ⟨b, 0, none⟩)) (by simp [execOp, e35, go_sem]) rfl
                · intro ρ wx hE hx hd
                  replace hE := Ext.undrew hE
                  have e36 : ρ (.tmp 36) = .pointer (some ⟨b, 0, none⟩) := hd.1
                  exact gives_val (G := fun vv _ => vv = .pointer (some ⟨b, 1, none⟩)) (v := .pointer (some ⟨b, 1, none⟩)) (by simp [execOp, e36, go_sem]) rfl
                · intro ρ wx hE hx hd
                  replace hE := Ext.undrew hE
                  have e37 : ρ (.tmp 37) = .pointer (some ⟨b, 1, none⟩) := hd.1
                  have hcl := ext_cell hE HC1.out
                  exact gives_val (G := fun vv _ => vv = .slice (some ⟨g, 0, none⟩) m c2) (v := .slice (some ⟨g, 0, none⟩) m c2) (by simp [execOp, e37, hcl, go_sem]) rfl
                · intro ρ wx hE hx hd
                  replace hE := Ext.undrew hE
                  have e40 : ρ (.tmp 40) = .pointer (some ⟨b, 0, none⟩) := hd.1
                  exact gives_val (G := fun vv _ => vv = .pointer (some ⟨b, 0, none⟩)) (v := .pointer (some ⟨b, 0, none⟩)) (by simp [execOp, e40, go_sem]) rfl
                · intro ρ wx hE hx hd
                  replace hE := Ext.undrew hE
                  have e41 : ρ (.tmp 41) = .pointer (some ⟨b, 0, none⟩) := hd.1
                  exact gives_val (G := fun vv _ => vv = .pointer (some ⟨b, 1, none⟩)) (v := .pointer (some ⟨b, 1, none⟩)) (by simp [execOp, e41, go_sem]) rfl
                · intro ρ wx hE hx hd
                  replace hE := Ext.undrew hE
                  have e42 : ρ (.tmp 42) = .pointer (some ⟨b, 1, none⟩) := hd.1
                  have hcl := ext_cell hE HC1.out
                  exact gives_val (G := fun vv _ => vv = .slice (some ⟨g, 0, none⟩) m c2) (v := .slice (some ⟨g, 0, none⟩) m c2) (by simp [execOp, e42, hcl, go_sem]) rfl
                · intro ρ wx hE hx hd
                  replace hE := Ext.undrew hE
                  have e43 : ρ (.tmp 43) = .slice (some ⟨g, 0, none⟩) m c2 := hd.1
                  have e44 : ρ (.tmp 44) = .int .i64 j := hd.2.1
                  exact gives_val (G := fun vv _ => vv = .pointer (some ⟨g, j * 3, none⟩)) (v := .pointer (some ⟨g, j * 3, none⟩)) (by simp [execOp, e43, e44, go_sem, hji]) rfl
                · intro ρ wx hE hx hd
                  replace hE := Ext.undrew hE
                  have e45 : ρ (.tmp 45) = .pointer (some ⟨g, j * 3, none⟩) := hd.1
                  exact gives_val (G := fun vv _ => vv = .pointer (some ⟨g, j * 3 + 1, none⟩)) (v := .pointer (some ⟨g, j * 3 + 1, none⟩)) (by simp [execOp, e45, go_sem]) rfl
                · intro ρ wx hE hx hd
                  replace hE := Ext.undrew hE
                  have e46 : ρ (.tmp 46) = .pointer (some ⟨g, j * 3 + 1, none⟩) := hd.1
                  have hcl := ext_cell hE HD1.out
                  exact gives_val (G := fun vv _ => vv = .slice B y.b.length cB) (v := .slice B y.b.length cB) (by simp [execOp, e46, hcl, go_sem]) rfl
                · intro ρ wx hE hx hd
                  replace hE := Ext.undrew hE
                  have e47 : ρ (.tmp 47) = .slice B y.b.length cB := hd.1
                  exact gives_val (G := fun vv _ => vv = .int .i64 y.b.length) (v := .int .i64 y.b.length) (by simp [execOp, e47, go_sem]) rfl
                · intro ρ wx hE hx hd
                  replace hE := Ext.undrew hE
                  have e38 : ρ (.tmp 38) = .slice (some ⟨g, 0, none⟩) m c2 := hd.1
                  have e39 : ρ (.tmp 39) = .int .i64 j := hd.2.1
                  exact gives_val (G := fun vv _ => vv = .pointer (some ⟨g, j * 3, none⟩)) (v := .pointer (some ⟨g, j * 3, none⟩)) (by simp [execOp, e38, e39, go_sem, hji]) rfl
                · intro ρ wx hE hx hd
                  replace hE := Ext.undrew hE
                  have e49 : ρ (.tmp 49) = .pointer (some ⟨g, j * 3, none⟩) := hd.1
                  exact gives_val (G := fun vv _ => vv = .pointer (some ⟨g, j * 3 + 2, none⟩)) (v := .pointer (some ⟨g, j * 3 + 2, none⟩)) (by simp [execOp, e49, go_sem]) rfl
              intro wx hE
              refine fun v35 (e35 : v35 = .pointer (some ⟨b, 0, none⟩)) => ?_
              refine fun v36 (e36 : v36 = .pointer (some ⟨b, 0, none⟩)) => ?_
              refine fun v37 (e37 : v37 = .pointer (some ⟨b, 1, none⟩)) => ?_
              refine fun v38 (e38 : v38 = .slice (some ⟨g, 0, none⟩) m c2) => ?_
              refine fun v39 (e39 : v39 = .int .i64 j) => ?_
              refine fun v40 (e40 : v40 = .pointer (some ⟨b, 0, none⟩)) => ?_
              refine fun v41 (e41 : v41 = .pointer (some ⟨b, 0, none⟩)) => ?_
              refine fun v42 (e42 : v42 = .pointer (some ⟨b, 1, none⟩)) => ?_
              refine fun v43 (e43 : v43 = .slice (some ⟨g, 0, none⟩) m c2) => ?_
              refine fun v44 (e44 : v44 = .int .i64 j) => ?_
              refine fun v45 (e45 : v45 = .pointer (some ⟨g, j * 3, none⟩)) => ?_
              refine fun v46 (e46 : v46 = .pointer (some ⟨g, j * 3 + 1, none⟩)) => ?_
              refine fun v47 (e47 : v47 = .slice B y.b.length cB) => ?_
              refine fun v48 (e48 : v48 = .int .i64 y.b.length) => ?_
              refine fun v49 (e49 : v49 = .pointer (some ⟨g, j * 3, none⟩)) => ?_
              refine fun v50 (e50 : v50 = .pointer (some ⟨g, j * 3 + 2, none⟩)) => ?_
              subst e35 e36 e37 e38 e39 e40 e41 e42 e43 e44 e45 e46 e47 e48 e49 e50
              refine rest_nil ?_
              simp only [List.drop_succ_cons, List.drop_zero, Act.put, List.setIfInBounds_toArray, List.set_cons_zero, List.set_cons_succ]
              have HE := Lib.hid hE
              obtain ⟨g3, c3, B3, cB3, hlv3, hgF3, hgl3, _, _, _, ⟨u3, d3⟩, f3, hri3, hk3⟩ := rsync_step (HRI.out.below hE) j y HY.out
              rw [HLV.out] at hlv3
              cases hlv3
              have HRI3 := Lib.hid hri3
              have HK3 := Lib.hid (keep_then HKK.out (keep_then (Keep.old (F := fun j => F j) hE) hk3))
              clear hri3 hk3 hgF3
              go_wp2_with fail
              go_roundw
              case rel => exact ⟨k + 1, by omega, by go_num, by rw [HTK.out, HSY.out]; exact HRI3.out, HK3.out⟩
              case measure => simp [intOf]; omega
          · obtain rfl : k = ls.length := by omega
            rw [List.take_length] at HRI
            go_wp2_with fail
            go_ret
            exact hR _ _ ⟨rfl, ⟨lv, last, HRI.out⟩, HKA.out.trans (HKK.out.mono (G := fun k => F k ∨ k = b) fun _ _ h => .inl h) fun _ _ h => h⟩
end
end Go.Proofs.Ytlfcbhagbdonhaa.Asc
