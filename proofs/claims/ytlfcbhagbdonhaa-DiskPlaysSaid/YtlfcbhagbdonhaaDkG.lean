/-
  Contract: bytes are put behind a file's.
  Lengths within the rows' own reach.
-/
import Derived.Test.YtlfcbhagbdonhaaDkF
import Derived.Test.YtlfcbhagbdonhaaReg
import Derived.Carry
namespace Go.Proofs.Ytlfcbhagbdonhaa.Asc
set_option linter.unusedSimpArgs false
set_option linter.unusedVariables false
open Go Go.RowKit Go.Proofs.Ytlfcbhagbdonhaa.Pb

theorem keep_then {F : Nat → Prop} {a b c : World} (h : Keep F a b) (k : Keep F b c) : Keep F a c := h.trans k fun _ _ h => h
theorem nil_map_eq (w : World) (mv : Option Nat) : (binOp .eql 59 (.map mv) (.map none)).run Try.prog w = .ok (.bool mv.isNone) w := by
  have h : ∀ k, (Op.equalIn (k + 1) 59 (.map mv) (.map none)).run Try.prog w = .ok mv.isNone w := fun k => by
    cases mv <;> simp [Op.equalIn, run_underlying Try.underlying59]
  simp only [binOp]
  simp [Op.equal, Op.maxDepth, h 9999]
set_option maxHeartbeats 4000000 in
set_option maxRecDepth 20000 in
theorem append_any {w : World} {S : Nat → Prop} {d : Nat} {dk : Dk} {g : Tx → Option Nat} {tag : Nat → Option Tx} {mv : Option Nat} (h : DIn w S d dk g tag mv) (ho : dk.ops ≤ 1000000) (hu : usedN dk.fs ≤ 1000000000) (hlen : dk.fs.length ≤ 1000) (T : ByteArray) (hT : T.size ≤ 1000000)
    (parts : List (List UInt8)) (pv : Value) (F : Nat → Prop) (hv : View Rp.u8.view w F parts pv) (hF : ¬ F d) (hpl : parts.length ≤ 1000000) (hps : lenSum parts parts.length ≤ 1000000) :
    Calls Try.prog 11 #[.pointer (some ⟨d, 0, none⟩), .string T, pv] w fun e w' => e = .returned (.int .i64 (dk.append (toL T) parts.flatten).1) ∧
      DAt w' (fun k => S k ∨ w.heap.size ≤ k) d (dk.append (toL T) parts.flatten).2 ∧ Keep (fun k => S k ∨ k = d) w w' := by
  refine calls_gen fun R hR => ?_
  have H := Lib.hid h; have HV := Lib.hid hv; have HPS := Lib.hid hps; have HPL := Lib.hid hpl
  have hlt := h.lt
  have HDL : Hid (d < w.heap.size) := Lib.hid hlt
  have hfl : parts.flatten.length ≤ 1000000 := by
    have := flat_len parts parts.length; rw [List.take_length] at this; omega
  clear h hv hps hpl
  go_enter Try.func11, Try.ntmps11
  go_wp2_with fail
  refine (op_any H.out ho).mono ?_
  rintro e w1 ⟨rfl, hd1, hk1⟩
  have HD1 := Lib.hid hd1; have HK1 := Lib.hid hk1
  have HKA1 : Hid (Keep (fun k => S k ∨ k = d) w w1) := Lib.hid (hk1.mono fun _ _ h => .inr h)
  have HV1 : Hid (View Rp.u8.view w1 F parts pv) := Lib.hid (HV.out.keep hk1 fun k h e => hF (e ▸ h))
  have HUP : Hid (∀ (k : Nat) (W : World) (dk' : Dk), DAt W (fun k => S k ∨ w1.heap.size ≤ k) d dk' → DAt W (fun k => S k ∨ w.heap.size ≤ k) d dk') := Lib.hid fun _ W dk' ⟨g', t', m', h'⟩ => ⟨g', t', m', h'.mono (fun k _ h => h.imp id fun h => Nat.le_trans hk1.size h) fun h => h.elim H.out.out fun h => by omega⟩
  have HST : Hid (DAt w1 (fun k => S k ∨ w.heap.size ≤ k) d dk.tick) := Lib.hid ⟨g, tag, mv, hd1.mono (fun _ _ h => .inl h) fun h => h.elim H.out.out fun h => by omega⟩
  clear hd1 hk1
  cases hoff : dk.off with
  | true =>
    have hw : dk.append (toL T) parts.flatten = (6, dk.tick) := by unfold Dk.append; rw [if_pos hoff]
    rw [hw] at hR
    clear hw
    go_wp2_with fail
    go_ret
    exact hR _ _ ⟨rfl, HST.out, HKA1.out⟩
  | false =>
  go_wp2_with fail
  refine (may_any T w1 (by omega)).mono ?_
  rintro e w2 ⟨rfl, hw2⟩
  rw [hw2]
  clear hw2
  cases hbad : badName (toL T) with
  | true =>
    have hw : dk.append (toL T) parts.flatten = (1, dk.tick) := by unfold Dk.append; rw [if_neg (by rw [hoff]; decide), if_pos hbad]
    rw [hw] at hR
    clear hw
    go_wp2_with fail
    go_ret
    exact hR _ _ ⟨rfl, HST.out, HKA1.out⟩
  | false =>
  go_wp2_with fail
  refine (concat_any parts pv F w1 HV1.out HPL.out HPS.out).mono ?_
  rintro e w2 ⟨u, rfl, ho2, hb2⟩
  obtain ⟨b, hbb⟩ : ∃ b, parts.flatten = b := ⟨_, rfl⟩
  rw [hbb] at hR ho2 hfl
  obtain ⟨UA, uc, rfl, huc⟩ := ho2.slice
  have HO2 := Lib.hid ho2; have HB2 := Lib.hid hb2
  have HD2 := Lib.hid (HD1.out.below hb2)
  have HKA2 : Hid (Keep (fun k => S k ∨ k = d) w w2) := Lib.hid (keep_then HKA1.out (Keep.old hb2))
  have HGET : Hid (∀ f, look dk.fs (toL T) = some f → ∃ fb v, g (toL T) = some fb ∧ FileIn w1 (fun k => S k ∧ tag k = some (toL T)) fb f v) := Lib.hid fun f hf => HD1.out.gsome hf
  have hlk := HD2.out.lookup2 hT
  have c1 := blk_cell HD2.out.blk 1
  have HC0 : Hid (w2.cell? ⟨d, 0, none⟩ = some (.int .i64 dk.room)) := Lib.hid (blk_cell HD2.out.blk 0)
  have HC1 : Hid (w2.cell? ⟨d, 1, none⟩ = some (.map mv)) := Lib.hid (blk_cell HD2.out.blk 1)
  simp only [dcells, List.getElem?_toArray, List.getElem?_cons_zero, List.getElem?_cons_succ] at c1
  have hlt2 := HD2.out.lt
  have HNL : Hid (dk.tick.fs = dk.fs) := Lib.hid rfl
  have HUS : Hid (∀ wx, Ext w2 wx → Calls Try.prog 31 #[.pointer (some ⟨d, 0, none⟩)] wx fun e w' => e = .returned (.int .i64 (usedN dk.fs)) ∧ Below wx.heap.size wx w') := Lib.hid fun wx hE => used_any (dk := dk.tick) (HD2.out.below hE) hu
  have HLN : Hid (∀ wx ty, Ext w2 wx → (Builtin.len_ #[59] ty #[.map mv]).run Try.prog wx = .ok (.int .i64 dk.fs.length) wx) := Lib.hid fun wx ty hE => DIn.lenm (dk := dk.tick) (HD2.out.below hE) ty
  have HBB := Lib.hid hbb
  clear ho2 hb2 hbb
  have hw0 : dk.append (toL T) b = if ((look dk.fs (toL T)).isNone && decide (dk.fs.length ≥ 64)) || decide ((usedN dk.fs + b.length : Int) > dk.room) then ((3 : Int), dk.tick)
    else match look dk.fs (toL T) with
      | none => ((0 : Int), { dk.tick with fs := putF dk.fs ⟨toL T, b, 0⟩ })
      | some f => ((0 : Int), { dk.tick with fs := setF dk.fs { f with b := f.b ++ b } }) := by
    conv => lhs; unfold Dk.append
    rw [if_neg (by rw [hoff]; decide), if_neg (by rw [hbad]; decide)]
    rfl
  rw [hw0] at hR
  obtain ⟨U, hU⟩ : ∃ U, usedN dk.fs = U := ⟨_, rfl⟩
  obtain ⟨n, hn⟩ : ∃ n, b.length = n := ⟨_, rfl⟩
  obtain ⟨N, hN⟩ : ∃ N, dk.fs.length = N := ⟨_, rfl⟩
  rw [hU] at hu HUS hR
  rw [hn] at hfl huc hR ⊢
  rw [hN] at hlen HLN hR
  have HU := Lib.hid hU; have HN := Lib.hid hn; have HNN := Lib.hid hN
  clear hU hn hN hw0
  have hgs := HD2.out.hasg (toL T)
  cases hl : look dk.fs (toL T) with
  | some f =>
    obtain ⟨fb, v, hg, hfi⟩ := HGET.out f hl
    rw [hl] at hR
    have HG := Lib.hid hg; have HFI := Lib.hid hfi; have HL := Lib.hid hl
    have hlk' : (Instr.lookup 59 (.map mv) (.string T) true).run Try.prog w2 = .ok (.tuple #[.pointer (some ⟨fb, 0, none⟩), .bool true]) w2 := by rw [hlk, hg]; rfl
    clear hlk hgs hg hfi hl
    go_upto_region 9 with fail
    clear hlk' c1
    by_cases hfull : (U : Int) + (n : Int) > dk.room
    · have hR' : ∀ e w', (e = .returned (.int .i64 3) ∧ DAt w' (fun k => S k ∨ w.heap.size ≤ k) d dk.tick ∧ Keep (fun k => S k ∨ k = d) w w') → Pb.Fin (R e w') := fun e w' h => hR e w' (by
        rw [if_pos (by rw [decide_eq_true hfull]; simp)]; exact h)
      have HR := Lib.hid hR'
      clear hR hR'
      refine wp_region_any (by kernel_rfl) ?_
      refine region_ext [(fun vv _ => vv = .bool true), (fun vv _ => vv = .bool false), (fun vv _ => vv = .bool false), (fun vv _ => vv = undef), (fun vv _ => vv = undef), (fun vv _ => vv = undef), (fun vv _ => vv = undef), (fun vv _ => vv = undef), (fun vv _ => vv = undef), (fun vv _ => vv = .bool false), (fun vv _ => vv = .bool false), (fun vv _ => vv = .pointer (some ⟨d, 0, none⟩)), (fun vv _ => vv = .int .i64 U), (fun vv _ => vv = .slice UA n uc), (fun vv _ => vv = .int .i64 n), (fun vv _ => vv = .int .i64 ((U : Int) + (n : Int))), (fun vv _ => vv = .pointer (some ⟨d, 0, none⟩)), (fun vv _ => vv = .pointer (some ⟨d, 0, none⟩)), (fun vv _ => vv = .pointer (some ⟨d, 0, none⟩)), (fun vv _ => vv = .int .i64 dk.room), (fun vv _ => vv = .bool true), (fun vv _ => vv = .bool true)]
        [[], [(0, 29)], [(1, 30)], [(2, 31)], [(2, 31), (3, 32)], [(2, 31), (4, 33)], [(2, 31), (5, 34)], [(2, 31), (6, 35)], [(2, 31), (7, 36)], [(2, 31), (8, 37)], [(9, 38)], [(10, 39)], [(10, 39), (11, 40)], [(10, 39)], [(10, 39), (13, 42)], [(10, 39), (12, 41), (14, 43)], [(10, 39)], [(10, 39), (16, 45)], [(10, 39), (17, 46)], [(10, 39), (18, 47)], [(10, 39), (15, 44), (19, 48)], [(10, 39), (20, 49)]]
        [none, none, none, some (31, true), some (31, true), some (31, true), some (31, true), some (31, true), some (31, true), none, none, some (39, false), some (39, false), some (39, false), some (39, false), some (39, false), some (39, false), some (39, false), some (39, false), some (39, false), some (39, false), none]
        [some 29, some 30, some 31, some 32, some 33, some 34, some 35, some 36, some 37, some 38, some 39, some 40, some 41, some 42, some 43, some 44, some 45, some 46, some 47, some 48, some 49, some 50] 22 (by kernel_rfl) (by kernel_rfl) (by kernel_rfl) rfl (by kernel_rfl) ?_ ?_ ?_
      · exact ⟨fun _ _ _ _ h => h, fun _ _ _ _ h => h, fun _ _ _ _ h => h, fun _ _ _ _ h => h, fun _ _ _ _ h => h, fun _ _ _ _ h => h, fun _ _ _ _ h => h, fun _ _ _ _ h => h, fun _ _ _ _ h => h, fun _ _ _ _ h => h, fun _ _ _ _ h => h, fun _ _ _ _ h => h, fun _ _ _ _ h => h, fun _ _ _ _ h => h, fun _ _ _ _ h => h, fun _ _ _ _ h => h, fun _ _ _ _ h => h, fun _ _ _ _ h => h, fun _ _ _ _ h => h, fun _ _ _ _ h => h, fun _ _ _ _ h => h, fun _ _ _ _ h => h, trivial⟩
      · refine ⟨fun ρ wx _ hx _ => gives_move (hx (.tmp 9) (by simp)), ?_, fun ρ wx _ _ hd => gives_move hd.1, fun ρ wx _ _ hd => .inr ⟨off_f hd.1, rfl⟩, fun ρ wx _ _ hd => .inr ⟨off_f hd.1, rfl⟩, fun ρ wx _ _ hd => .inr ⟨off_f hd.1, rfl⟩, fun ρ wx _ _ hd => .inr ⟨off_f hd.1, rfl⟩, fun ρ wx _ _ hd => .inr ⟨off_f hd.1, rfl⟩, fun ρ wx _ _ hd => .inr ⟨off_f hd.1, rfl⟩, ?_, fun ρ wx _ _ hd => gives_move hd.1, ?_, ?_, ?_, ?_, ?_, ?_, ?_, ?_, ?_, ?_, ?_, trivial⟩
        · intro ρ wx hE hx hd
          replace hE := Ext.undrew hE
          have e29 : ρ (.tmp 29) = .bool true := hd.1
          exact gives_val (G := fun vv _ => vv = .bool false) (v := .bool false) (by simp [execOp, e29, go_sem]) rfl
        · intro ρ wx hE hx hd
          replace hE := Ext.undrew hE
          have e31 : ρ (.tmp 31) = .bool false := hd.1
          have e37 : ρ (.tmp 37) = undef := hd.2.1
          have hk : ∀ v, ρ (.const v) = v := fun v => (hx (.const v) (by simp)).trans rfl
          exact gives_val (G := fun vv _ => vv = .bool false) (v := .bool false) (by simp [execOp, e31, e37, hk, go_sem]) rfl
        · intro ρ wx hE hx hd
          replace hE := Ext.undrew hE
          have e39 : ρ (.tmp 39) = .bool false := hd.1
          have e0 : ρ (.tmp 0) = .pointer (some ⟨d, 0, none⟩) := hx (.tmp 0) (by simp)
          refine .inl ⟨e39, ?_⟩
          exact gives_val (G := fun vv _ => vv = .pointer (some ⟨d, 0, none⟩)) (v := .pointer (some ⟨d, 0, none⟩)) (by simp [execOp, e39, e0, go_sem]) rfl
        · intro ρ wx hE hx hd
          replace hE := Ext.undrew hE
          have e39 : ρ (.tmp 39) = .bool false := hd.1
          have e40 : ρ (.tmp 40) = .pointer (some ⟨d, 0, none⟩) := hd.2.1
          have hf : ∀ f, ρ (.func f) = .func (.func f) #[] #[] := fun f => (hx (.func f) (by simp)).trans rfl
          refine .inl ⟨e39, ?_⟩
          refine gives_call (G := fun vv _ => vv = .int .i64 U) (by simp [execOp, e39, e40, hf, go_sem] <;> first | exact ⟨rfl, rfl⟩ | exact rfl) ?_
          exact call_below (HUS.out wx hE)
        · intro ρ wx hE hx hd
          replace hE := Ext.undrew hE
          have e39 : ρ (.tmp 39) = .bool false := hd.1
          have e7 : ρ (.tmp 7) = .slice UA n uc := hx (.tmp 7) (by simp)
          refine .inl ⟨e39, ?_⟩
          exact gives_val (G := fun vv _ => vv = .slice UA n uc) (v := .slice UA n uc) (by simp [execOp, e39, e7, go_sem]) rfl
        · intro ρ wx hE hx hd
          replace hE := Ext.undrew hE
          have e39 : ρ (.tmp 39) = .bool false := hd.1
          have e42 : ρ (.tmp 42) = .slice UA n uc := hd.2.1
          refine .inl ⟨e39, ?_⟩
          exact gives_val (G := fun vv _ => vv = .int .i64 n) (v := .int .i64 n) (by simp [execOp, e39, e42, go_sem]) rfl
        · intro ρ wx hE hx hd
          replace hE := Ext.undrew hE
          have e39 : ρ (.tmp 39) = .bool false := hd.1
          have e41 : ρ (.tmp 41) = .int .i64 U := hd.2.1
          have e43 : ρ (.tmp 43) = .int .i64 n := hd.2.2.1
          refine .inl ⟨e39, ?_⟩
          exact gives_val (G := fun vv _ => vv = .int .i64 ((U : Int) + (n : Int))) (v := .int .i64 ((U : Int) + (n : Int))) (by simp [execOp, e41, e43, go_sem, show IntKind.i64.wrap ((U : Int) + (n : Int)) = (U : Int) + (n : Int) by rw [IntKind.wrap_i64]; omega]) rfl
        · intro ρ wx hE hx hd
          replace hE := Ext.undrew hE
          have e39 : ρ (.tmp 39) = .bool false := hd.1
          have e0 : ρ (.tmp 0) = .pointer (some ⟨d, 0, none⟩) := hx (.tmp 0) (by simp)
          refine .inl ⟨e39, ?_⟩
          exact gives_val (G := fun vv _ => vv = .pointer (some ⟨d, 0, none⟩)) (v := .pointer (some ⟨d, 0, none⟩)) (by simp [execOp, e39, e0, go_sem]) rfl
        · intro ρ wx hE hx hd
          replace hE := Ext.undrew hE
          have e39 : ρ (.tmp 39) = .bool false := hd.1
          have e45 : ρ (.tmp 45) = .pointer (some ⟨d, 0, none⟩) := hd.2.1
          refine .inl ⟨e39, ?_⟩
          exact gives_val (G := fun vv _ => vv = .pointer (some ⟨d, 0, none⟩)) (v := .pointer (some ⟨d, 0, none⟩)) (by simp [execOp, e39, e45, go_sem]) rfl
        · intro ρ wx hE hx hd
          replace hE := Ext.undrew hE
          have e39 : ρ (.tmp 39) = .bool false := hd.1
          have e46 : ρ (.tmp 46) = .pointer (some ⟨d, 0, none⟩) := hd.2.1
          refine .inl ⟨e39, ?_⟩
          exact gives_val (G := fun vv _ => vv = .pointer (some ⟨d, 0, none⟩)) (v := .pointer (some ⟨d, 0, none⟩)) (by simp [execOp, e39, e46, go_sem]) rfl
        · intro ρ wx hE hx hd
          replace hE := Ext.undrew hE
          have e39 : ρ (.tmp 39) = .bool false := hd.1
          have e47 : ρ (.tmp 47) = .pointer (some ⟨d, 0, none⟩) := hd.2.1
          refine .inl ⟨e39, ?_⟩
          have hcl := ext_cell hE HC0.out
          exact gives_val (G := fun vv _ => vv = .int .i64 dk.room) (v := .int .i64 dk.room) (by simp [execOp, e39, e47, hcl, go_sem]) rfl
        · intro ρ wx hE hx hd
          replace hE := Ext.undrew hE
          have e39 : ρ (.tmp 39) = .bool false := hd.1
          have e44 : ρ (.tmp 44) = .int .i64 ((U : Int) + (n : Int)) := hd.2.1
          have e48 : ρ (.tmp 48) = .int .i64 dk.room := hd.2.2.1
          refine .inl ⟨e39, ?_⟩
          exact gives_val (G := fun vv _ => vv = .bool true) (v := .bool true) (by simp [execOp, e44, e48, go_sem]; omega) rfl
        · intro ρ wx hE hx hd
          replace hE := Ext.undrew hE
          have e39 : ρ (.tmp 39) = .bool false := hd.1
          have e49 : ρ (.tmp 49) = .bool true := hd.2.1
          have hk : ∀ v, ρ (.const v) = v := fun v => (hx (.const v) (by simp)).trans rfl
          exact gives_val (G := fun vv _ => vv = .bool true) (v := .bool true) (by simp [execOp, e39, e49, hk, go_sem]) rfl
      intro wx hE
      refine fun v29 (e29 : v29 = .bool true) => ?_
      refine fun v30 (e30 : v30 = .bool false) => ?_
      refine fun v31 (e31 : v31 = .bool false) => ?_
      refine fun v32 (e32 : v32 = undef) => ?_
      refine fun v33 (e33 : v33 = undef) => ?_
      refine fun v34 (e34 : v34 = undef) => ?_
      refine fun v35 (e35 : v35 = undef) => ?_
      refine fun v36 (e36 : v36 = undef) => ?_
      refine fun v37 (e37 : v37 = undef) => ?_
      refine fun v38 (e38 : v38 = .bool false) => ?_
      refine fun v39 (e39 : v39 = .bool false) => ?_
      refine fun v40 (e40 : v40 = .pointer (some ⟨d, 0, none⟩)) => ?_
      refine fun v41 (e41 : v41 = .int .i64 U) => ?_
      refine fun v42 (e42 : v42 = .slice UA n uc) => ?_
      refine fun v43 (e43 : v43 = .int .i64 n) => ?_
      refine fun v44 (e44 : v44 = .int .i64 ((U : Int) + (n : Int))) => ?_
      refine fun v45 (e45 : v45 = .pointer (some ⟨d, 0, none⟩)) => ?_
      refine fun v46 (e46 : v46 = .pointer (some ⟨d, 0, none⟩)) => ?_
      refine fun v47 (e47 : v47 = .pointer (some ⟨d, 0, none⟩)) => ?_
      refine fun v48 (e48 : v48 = .int .i64 dk.room) => ?_
      refine fun v49 (e49 : v49 = .bool true) => ?_
      refine fun v50 (e50 : v50 = .bool true) => ?_
      subst e29 e30 e31 e32 e33 e34 e35 e36 e37 e38 e39 e40 e41 e42 e43 e44 e45 e46 e47 e48 e49 e50
      refine rest_nil ?_
      refine wpList_nil ?_
      simp only [Exit.then, Act.put, List.setIfInBounds_toArray, List.set_cons_zero, List.set_cons_succ]
      refine go_on (by assumption) ?_
      go_wp2_with fail
      go_ret
      exact HR.out _ _ ⟨rfl, ⟨g, tag, mv, (HD2.out.below hE).mono (fun _ _ h => .inl h) fun h => h.elim H.out.out fun h => by have := HDL.out; omega⟩, keep_then HKA2.out (Keep.old hE)⟩
    · have hR' : ∀ e w', (e = .returned (.int .i64 0) ∧ DAt w' (fun k => S k ∨ w.heap.size ≤ k) d { dk.tick with fs := setF dk.fs { f with b := f.b ++ b } } ∧ Keep (fun k => S k ∨ k = d) w w') → Pb.Fin (R e w') := fun e w' h => hR e w' (by
        rw [if_neg (by rw [decide_eq_false hfull]; simp)]; exact h)
      have HR := Lib.hid hR'
      clear hR hR'
      refine wp_region_any (by kernel_rfl) ?_
      refine region_ext [(fun vv _ => vv = .bool true), (fun vv _ => vv = .bool false), (fun vv _ => vv = .bool false), (fun vv _ => vv = undef), (fun vv _ => vv = undef), (fun vv _ => vv = undef), (fun vv _ => vv = undef), (fun vv _ => vv = undef), (fun vv _ => vv = undef), (fun vv _ => vv = .bool false), (fun vv _ => vv = .bool false), (fun vv _ => vv = .pointer (some ⟨d, 0, none⟩)), (fun vv _ => vv = .int .i64 U), (fun vv _ => vv = .slice UA n uc), (fun vv _ => vv = .int .i64 n), (fun vv _ => vv = .int .i64 ((U : Int) + (n : Int))), (fun vv _ => vv = .pointer (some ⟨d, 0, none⟩)), (fun vv _ => vv = .pointer (some ⟨d, 0, none⟩)), (fun vv _ => vv = .pointer (some ⟨d, 0, none⟩)), (fun vv _ => vv = .int .i64 dk.room), (fun vv _ => vv = .bool false), (fun vv _ => vv = .bool false)]
        [[], [(0, 29)], [(1, 30)], [(2, 31)], [(2, 31), (3, 32)], [(2, 31), (4, 33)], [(2, 31), (5, 34)], [(2, 31), (6, 35)], [(2, 31), (7, 36)], [(2, 31), (8, 37)], [(9, 38)], [(10, 39)], [(10, 39), (11, 40)], [(10, 39)], [(10, 39), (13, 42)], [(10, 39), (12, 41), (14, 43)], [(10, 39)], [(10, 39), (16, 45)], [(10, 39), (17, 46)], [(10, 39), (18, 47)], [(10, 39), (15, 44), (19, 48)], [(10, 39), (20, 49)]]
        [none, none, none, some (31, true), some (31, true), some (31, true), some (31, true), some (31, true), some (31, true), none, none, some (39, false), some (39, false), some (39, false), some (39, false), some (39, false), some (39, false), some (39, false), some (39, false), some (39, false), some (39, false), none]
        [some 29, some 30, some 31, some 32, some 33, some 34, some 35, some 36, some 37, some 38, some 39, some 40, some 41, some 42, some 43, some 44, some 45, some 46, some 47, some 48, some 49, some 50] 22 (by kernel_rfl) (by kernel_rfl) (by kernel_rfl) rfl (by kernel_rfl) ?_ ?_ ?_
      · exact ⟨fun _ _ _ _ h => h, fun _ _ _ _ h => h, fun _ _ _ _ h => h, fun _ _ _ _ h => h, fun _ _ _ _ h => h, fun _ _ _ _ h => h, fun _ _ _ _ h => h, fun _ _ _ _ h => h, fun _ _ _ _ h => h, fun _ _ _ _ h => h, fun _ _ _ _ h => h, fun _ _ _ _ h => h, fun _ _ _ _ h => h, fun _ _ _ _ h => h, fun _ _ _ _ h => h, fun _ _ _ _ h => h, fun _ _ _ _ h => h, fun _ _ _ _ h => h, fun _ _ _ _ h => h, fun _ _ _ _ h => h, fun _ _ _ _ h => h, fun _ _ _ _ h => h, trivial⟩
      · refine ⟨fun ρ wx _ hx _ => gives_move (hx (.tmp 9) (by simp)), ?_, fun ρ wx _ _ hd => gives_move hd.1, fun ρ wx _ _ hd => .inr ⟨off_f hd.1, rfl⟩, fun ρ wx _ _ hd => .inr ⟨off_f hd.1, rfl⟩, fun ρ wx _ _ hd => .inr ⟨off_f hd.1, rfl⟩, fun ρ wx _ _ hd => .inr ⟨off_f hd.1, rfl⟩, fun ρ wx _ _ hd => .inr ⟨off_f hd.1, rfl⟩, fun ρ wx _ _ hd => .inr ⟨off_f hd.1, rfl⟩, ?_, fun ρ wx _ _ hd => gives_move hd.1, ?_, ?_, ?_, ?_, ?_, ?_, ?_, ?_, ?_, ?_, ?_, trivial⟩
        · intro ρ wx hE hx hd
          replace hE := Ext.undrew hE
          have e29 : ρ (.tmp 29) = .bool true := hd.1
          exact gives_val (G := fun vv _ => vv = .bool false) (v := .bool false) (by simp [execOp, e29, go_sem]) rfl
        · intro ρ wx hE hx hd
          replace hE := Ext.undrew hE
          have e31 : ρ (.tmp 31) = .bool false := hd.1
          have e37 : ρ (.tmp 37) = undef := hd.2.1
          have hk : ∀ v, ρ (.const v) = v := fun v => (hx (.const v) (by simp)).trans rfl
          exact gives_val (G := fun vv _ => vv = .bool false) (v := .bool false) (by simp [execOp, e31, e37, hk, go_sem]) rfl
        · intro ρ wx hE hx hd
          replace hE := Ext.undrew hE
          have e39 : ρ (.tmp 39) = .bool false := hd.1
          have e0 : ρ (.tmp 0) = .pointer (some ⟨d, 0, none⟩) := hx (.tmp 0) (by simp)
          refine .inl ⟨e39, ?_⟩
          exact gives_val (G := fun vv _ => vv = .pointer (some ⟨d, 0, none⟩)) (v := .pointer (some ⟨d, 0, none⟩)) (by simp [execOp, e39, e0, go_sem]) rfl
        · intro ρ wx hE hx hd
          replace hE := Ext.undrew hE
          have e39 : ρ (.tmp 39) = .bool false := hd.1
          have e40 : ρ (.tmp 40) = .pointer (some ⟨d, 0, none⟩) := hd.2.1
          have hf : ∀ f, ρ (.func f) = .func (.func f) #[] #[] := fun f => (hx (.func f) (by simp)).trans rfl
          refine .inl ⟨e39, ?_⟩
          refine gives_call (G := fun vv _ => vv = .int .i64 U) (by simp [execOp, e39, e40, hf, go_sem] <;> first | exact ⟨rfl, rfl⟩ | exact rfl) ?_
          exact call_below (HUS.out wx hE)
        · intro ρ wx hE hx hd
          replace hE := Ext.undrew hE
          have e39 : ρ (.tmp 39) = .bool false := hd.1
          have e7 : ρ (.tmp 7) = .slice UA n uc := hx (.tmp 7) (by simp)
          refine .inl ⟨e39, ?_⟩
          exact gives_val (G := fun vv _ => vv = .slice UA n uc) (v := .slice UA n uc) (by simp [execOp, e39, e7, go_sem]) rfl
        · intro ρ wx hE hx hd
          replace hE := Ext.undrew hE
          have e39 : ρ (.tmp 39) = .bool false := hd.1
          have e42 : ρ (.tmp 42) = .slice UA n uc := hd.2.1
          refine .inl ⟨e39, ?_⟩
          exact gives_val (G := fun vv _ => vv = .int .i64 n) (v := .int .i64 n) (by simp [execOp, e39, e42, go_sem]) rfl
        · intro ρ wx hE hx hd
          replace hE := Ext.undrew hE
          have e39 : ρ (.tmp 39) = .bool false := hd.1
          have e41 : ρ (.tmp 41) = .int .i64 U := hd.2.1
          have e43 : ρ (.tmp 43) = .int .i64 n := hd.2.2.1
          refine .inl ⟨e39, ?_⟩
          exact gives_val (G := fun vv _ => vv = .int .i64 ((U : Int) + (n : Int))) (v := .int .i64 ((U : Int) + (n : Int))) (by simp [execOp, e41, e43, go_sem, show IntKind.i64.wrap ((U : Int) + (n : Int)) = (U : Int) + (n : Int) by rw [IntKind.wrap_i64]; omega]) rfl
        · intro ρ wx hE hx hd
          replace hE := Ext.undrew hE
          have e39 : ρ (.tmp 39) = .bool false := hd.1
          have e0 : ρ (.tmp 0) = .pointer (some ⟨d, 0, none⟩) := hx (.tmp 0) (by simp)
          refine .inl ⟨e39, ?_⟩
          exact gives_val (G := fun vv _ => vv = .pointer (some ⟨d, 0, none⟩)) (v := .pointer (some ⟨d, 0, none⟩)) (by simp [execOp, e39, e0, go_sem]) rfl
        · intro ρ wx hE hx hd
          replace hE := Ext.undrew hE
          have e39 : ρ (.tmp 39) = .bool false := hd.1
          have e45 : ρ (.tmp 45) = .pointer (some ⟨d, 0, none⟩) := hd.2.1
          refine .inl ⟨e39, ?_⟩
          exact gives_val (G := fun vv _ => vv = .pointer (some ⟨d, 0, none⟩)) (v := .pointer (some ⟨d, 0, none⟩)) (by simp [execOp, e39, e45, go_sem]) rfl
        · intro ρ wx hE hx hd
          replace hE := Ext.undrew hE
          have e39 : ρ (.tmp 39) = .bool false := hd.1
          have e46 : ρ (.tmp 46) = .pointer (some ⟨d, 0, none⟩) := hd.2.1
          refine .inl ⟨e39, ?_⟩
          exact gives_val (G := fun vv _ => vv = .pointer (some ⟨d, 0, none⟩)) (v := .pointer (some ⟨d, 0, none⟩)) (by simp [execOp, e39, e46, go_sem]) rfl
        · intro ρ wx hE hx hd
          replace hE := Ext.undrew hE
          have e39 : ρ (.tmp 39) = .bool false := hd.1
          have e47 : ρ (.tmp 47) = .pointer (some ⟨d, 0, none⟩) := hd.2.1
          refine .inl ⟨e39, ?_⟩
          have hcl := ext_cell hE HC0.out
          exact gives_val (G := fun vv _ => vv = .int .i64 dk.room) (v := .int .i64 dk.room) (by simp [execOp, e39, e47, hcl, go_sem]) rfl
        · intro ρ wx hE hx hd
          replace hE := Ext.undrew hE
          have e39 : ρ (.tmp 39) = .bool false := hd.1
          have e44 : ρ (.tmp 44) = .int .i64 ((U : Int) + (n : Int)) := hd.2.1
          have e48 : ρ (.tmp 48) = .int .i64 dk.room := hd.2.2.1
          refine .inl ⟨e39, ?_⟩
          exact gives_val (G := fun vv _ => vv = .bool false) (v := .bool false) (by simp [execOp, e44, e48, go_sem]; omega) rfl
        · intro ρ wx hE hx hd
          replace hE := Ext.undrew hE
          have e39 : ρ (.tmp 39) = .bool false := hd.1
          have e49 : ρ (.tmp 49) = .bool false := hd.2.1
          have hk : ∀ v, ρ (.const v) = v := fun v => (hx (.const v) (by simp)).trans rfl
          exact gives_val (G := fun vv _ => vv = .bool false) (v := .bool false) (by simp [execOp, e39, e49, hk, go_sem]) rfl
      intro wx hE
      refine fun v29 (e29 : v29 = .bool true) => ?_
      refine fun v30 (e30 : v30 = .bool false) => ?_
      refine fun v31 (e31 : v31 = .bool false) => ?_
      refine fun v32 (e32 : v32 = undef) => ?_
      refine fun v33 (e33 : v33 = undef) => ?_
      refine fun v34 (e34 : v34 = undef) => ?_
      refine fun v35 (e35 : v35 = undef) => ?_
      refine fun v36 (e36 : v36 = undef) => ?_
      refine fun v37 (e37 : v37 = undef) => ?_
      refine fun v38 (e38 : v38 = .bool false) => ?_
      refine fun v39 (e39 : v39 = .bool false) => ?_
      refine fun v40 (e40 : v40 = .pointer (some ⟨d, 0, none⟩)) => ?_
      refine fun v41 (e41 : v41 = .int .i64 U) => ?_
      refine fun v42 (e42 : v42 = .slice UA n uc) => ?_
      refine fun v43 (e43 : v43 = .int .i64 n) => ?_
      refine fun v44 (e44 : v44 = .int .i64 ((U : Int) + (n : Int))) => ?_
      refine fun v45 (e45 : v45 = .pointer (some ⟨d, 0, none⟩)) => ?_
      refine fun v46 (e46 : v46 = .pointer (some ⟨d, 0, none⟩)) => ?_
      refine fun v47 (e47 : v47 = .pointer (some ⟨d, 0, none⟩)) => ?_
      refine fun v48 (e48 : v48 = .int .i64 dk.room) => ?_
      refine fun v49 (e49 : v49 = .bool false) => ?_
      refine fun v50 (e50 : v50 = .bool false) => ?_
      subst e29 e30 e31 e32 e33 e34 e35 e36 e37 e38 e39 e40 e41 e42 e43 e44 e45 e46 e47 e48 e49 e50
      refine rest_nil ?_
      refine wpList_nil ?_
      simp only [Exit.then, Act.put, List.setIfInBounds_toArray, List.set_cons_zero, List.set_cons_succ]
      refine go_on (by assumption) ?_
      have HE := Lib.hid hE
      have HFX : Hid (FileIn wx (fun k => S k ∧ tag k = some (toL T)) fb f v) := Lib.hid ((HFI.out.below HB2.out).below hE)
      have HVL : Hid (∀ k, v.ownBlock = some k → k < w1.heap.size) := Lib.hid fun k hk => own_lt2 HFI.out.own hk
      have HUX : Hid (View Rp.u8 wx (fun k => w1.heap.size ≤ k) b (.slice UA n uc)) := Lib.hid (by have h := (HO2.out.below hE).view; rw [HN.out] at h; exact h)
      have HDX := Lib.hid (HD2.out.below hE)
      have hws : w1.heap.size ≤ wx.heap.size := Nat.le_trans HB2.out.size hE.size
      clear hE
      obtain ⟨VA, vc, rfl, hvc⟩ := HFX.out.own.slice
      have c0 := blk_cell HFX.out.blk 0
      have f0 := blk_free HFX.out.blk 0
      simp only [List.getElem?_toArray, List.getElem?_cons_zero] at c0
      have hltf := HFX.out.lt
      have hfb : f.b.length ≤ 1000000000 := by
        have := used_mem (look_some HL.out).1; rw [HU.out] at this; omega
      go_wp2_with (with_reducible (first | refine stop_append ?_))
      refine ⟨wp_append_view Try.underlying28 info5 rfl (show 0 < 1 by decide) HFX.out.own rfl rfl HUX.out (fun j hj e => by
        have := HVL.out j e.symm; omega) (by unfold maxLen; rw [HN.out]; omega) (by rw [HN.out]; omega) ?_⟩
      intro v4 w4 ho4 hk4 _ hb4
      obtain ⟨fb4, hfb4⟩ : ∃ z, f.b ++ b = z := ⟨_, rfl⟩
      rw [hfb4] at ho4
      obtain ⟨A4, c4, rfl, hc4⟩ := ho4.slice
      have HO4 := Lib.hid (own_self ho4); have HK4 := Lib.hid hk4; have HB4 := Lib.hid hb4
      have HF4 := Lib.hid hfb4
      have hnf : ¬ some fb = (Value.slice VA f.b.length vc).ownBlock := fun e => (HFX.out.inV fb e.symm).2 rfl
      have hg4 := hk4.blk HFX.out.blk hnf
      have f4 := blk_free hg4 0
      have d4 := blk_cell hg4 0
      simp only [List.getElem?_toArray, List.getElem?_cons_zero] at d4
      have hl4 := blk_lt hg4
      have HG4 := Lib.hid hg4
      clear ho4 hk4 hb4 hfb4 hg4 hnf
      go_wp2_with fail
      go_ret
      have kS := (Keep.refl (fun k => k = fb) w4).set (p := ⟨fb, 0, none⟩) rfl (.slice A4 fb4.length c4)
      have hown4 : ∀ k, (Value.slice A4 fb4.length c4).ownBlock = some k → ((S k ∧ tag k = some (toL T)) ∨ wx.heap.size ≤ k) ∧ k ≠ fb := fun k hk => by
        rcases HB4.out with e | ⟨i, e, hi⟩
        · rw [e] at hk; exact ⟨.inl (HFX.out.inV k hk).1, (HFX.out.inV k hk).2⟩
        · rw [e] at hk; cases hk; exact ⟨.inr hi, by omega⟩
      have hkk : Keep (fun k => S k ∧ tag k = some (toL T)) wx (w4.setCell ⟨fb, 0, none⟩ (.slice A4 fb4.length c4)) := (HK4.out.mono fun k _ e => (HFX.out.inV k e.symm).1).trans kS fun k _ e => e ▸ HFX.out.inF
      have hfin : FileIn (w4.setCell ⟨fb, 0, none⟩ (.slice A4 fb4.length c4)) (fun k => (S k ∧ tag k = some (toL T)) ∨ wx.heap.size ≤ k) fb { f with b := f.b ++ b } (.slice A4 fb4.length c4) :=
        ⟨blk_set HG4.out 0 _, by dsimp only; rw [HF4.out]; exact HO4.out.keep kS fun k hk e => (hown4 k hk).2 e, .inl HFX.out.inF, hown4⟩
      have hfn := (look_some HL.out).2
      have hds := HDX.out.setFile (f := f) (f' := { f with b := f.b ++ b }) (by show look dk.fs f.name = some f; rw [hfn]; exact HL.out) (by show g f.name = some fb; rw [hfn]; exact HG.out) (hkk.mono fun k _ h => ⟨h.1, by rw [h.2, ← hfn]⟩) (hfin.mono fun k _ h => h.imp (fun h => ⟨h.1, by rw [h.2, ← hfn]⟩) id) (by
        have := H.out.ok.sy f (look_some HL.out).1; dsimp only; rw [List.length_append]; omega)
      exact HR.out _ _ ⟨rfl, ⟨_, _, _, hds.mono (fun k _ h => h.imp id fun h => by have := HKA2.out.size; have := HE.out.size; omega) fun h => h.elim H.out.out fun h => by have := HDL.out; omega⟩,
        (keep_then HKA2.out (Keep.old HE.out)).trans hkk fun k _ h => .inl h.1⟩
  | none =>
    have hg := HD1.out.gnone hl
    rw [hl] at hR
    have HG := Lib.hid hg; have HL := Lib.hid hl
    have hlk' : (Instr.lookup 59 (.map mv) (.string T) true).run Try.prog w2 = .ok (.tuple #[.pointer none, .bool false]) w2 := by rw [hlk, hg]; rfl
    clear hlk hgs hg hl
    go_upto_region 9 with fail
    clear hlk' c1
    by_cases hmany : N ≥ 64
    · have hR' : ∀ e w', (e = .returned (.int .i64 3) ∧ DAt w' (fun k => S k ∨ w.heap.size ≤ k) d dk.tick ∧ Keep (fun k => S k ∨ k = d) w w') → Pb.Fin (R e w') := fun e w' h => hR e w' (by
        rw [if_pos (by rw [decide_eq_true hmany]; simp)]; exact h)
      have HR := Lib.hid hR'
      clear hR hR'
      refine wp_region_any (by kernel_rfl) ?_
      refine region_ext [(fun vv _ => vv = .bool false), (fun vv _ => vv = .bool true), (fun vv _ => vv = .bool true), (fun vv _ => vv = .pointer (some ⟨d, 0, none⟩)), (fun vv _ => vv = .pointer (some ⟨d, 0, none⟩)), (fun vv _ => vv = .pointer (some ⟨d, 1, none⟩)), (fun vv _ => vv = .map mv), (fun vv _ => vv = .int .i64 N), (fun vv _ => vv = .bool true), (fun vv _ => vv = .bool true), (fun vv _ => vv = .bool true), (fun vv _ => vv = undef), (fun vv _ => vv = undef), (fun vv _ => vv = undef), (fun vv _ => vv = undef), (fun vv _ => vv = undef), (fun vv _ => vv = undef), (fun vv _ => vv = undef), (fun vv _ => vv = undef), (fun vv _ => vv = undef), (fun vv _ => vv = undef), (fun vv _ => vv = .bool true)]
        [[], [(0, 29)], [(1, 30)], [(2, 31)], [(2, 31), (3, 32)], [(2, 31), (4, 33)], [(2, 31), (5, 34)], [(2, 31), (6, 35)], [(2, 31), (7, 36)], [(2, 31), (8, 37)], [(9, 38)], [(10, 39)], [(10, 39), (11, 40)], [(10, 39)], [(10, 39), (13, 42)], [(10, 39), (12, 41), (14, 43)], [(10, 39)], [(10, 39), (16, 45)], [(10, 39), (17, 46)], [(10, 39), (18, 47)], [(10, 39), (15, 44), (19, 48)], [(10, 39), (20, 49)]]
        [none, none, none, some (31, true), some (31, true), some (31, true), some (31, true), some (31, true), some (31, true), none, none, some (39, false), some (39, false), some (39, false), some (39, false), some (39, false), some (39, false), some (39, false), some (39, false), some (39, false), some (39, false), none]
        [some 29, some 30, some 31, some 32, some 33, some 34, some 35, some 36, some 37, some 38, some 39, some 40, some 41, some 42, some 43, some 44, some 45, some 46, some 47, some 48, some 49, some 50] 22 (by kernel_rfl) (by kernel_rfl) (by kernel_rfl) rfl (by kernel_rfl) ?_ ?_ ?_
      · exact ⟨fun _ _ _ _ h => h, fun _ _ _ _ h => h, fun _ _ _ _ h => h, fun _ _ _ _ h => h, fun _ _ _ _ h => h, fun _ _ _ _ h => h, fun _ _ _ _ h => h, fun _ _ _ _ h => h, fun _ _ _ _ h => h, fun _ _ _ _ h => h, fun _ _ _ _ h => h, fun _ _ _ _ h => h, fun _ _ _ _ h => h, fun _ _ _ _ h => h, fun _ _ _ _ h => h, fun _ _ _ _ h => h, fun _ _ _ _ h => h, fun _ _ _ _ h => h, fun _ _ _ _ h => h, fun _ _ _ _ h => h, fun _ _ _ _ h => h, fun _ _ _ _ h => h, trivial⟩
      · refine ⟨fun ρ wx _ hx _ => gives_move (hx (.tmp 9) (by simp)), ?_, fun ρ wx _ _ hd => gives_move hd.1, ?_, ?_, ?_, ?_, ?_, ?_, ?_, fun ρ wx _ _ hd => gives_move hd.1, fun ρ wx _ _ hd => .inr ⟨off_t hd.1, rfl⟩, fun ρ wx _ _ hd => .inr ⟨off_t hd.1, rfl⟩, fun ρ wx _ _ hd => .inr ⟨off_t hd.1, rfl⟩, fun ρ wx _ _ hd => .inr ⟨off_t hd.1, rfl⟩, fun ρ wx _ _ hd => .inr ⟨off_t hd.1, rfl⟩, fun ρ wx _ _ hd => .inr ⟨off_t hd.1, rfl⟩, fun ρ wx _ _ hd => .inr ⟨off_t hd.1, rfl⟩, fun ρ wx _ _ hd => .inr ⟨off_t hd.1, rfl⟩, fun ρ wx _ _ hd => .inr ⟨off_t hd.1, rfl⟩, fun ρ wx _ _ hd => .inr ⟨off_t hd.1, rfl⟩, ?_, trivial⟩
        · intro ρ wx hE hx hd
          replace hE := Ext.undrew hE
          have e29 : ρ (.tmp 29) = .bool false := hd.1
          exact gives_val (G := fun vv _ => vv = .bool true) (v := .bool true) (by simp [execOp, e29, go_sem]) rfl
        · intro ρ wx hE hx hd
          replace hE := Ext.undrew hE
          have e31 : ρ (.tmp 31) = .bool true := hd.1
          have e0 : ρ (.tmp 0) = .pointer (some ⟨d, 0, none⟩) := hx (.tmp 0) (by simp)
          refine .inl ⟨e31, ?_⟩
          exact gives_val (G := fun vv _ => vv = .pointer (some ⟨d, 0, none⟩)) (v := .pointer (some ⟨d, 0, none⟩)) (by simp [execOp, e31, e0, go_sem]) rfl
        · intro ρ wx hE hx hd
          replace hE := Ext.undrew hE
          have e31 : ρ (.tmp 31) = .bool true := hd.1
          have e32 : ρ (.tmp 32) = .pointer (some ⟨d, 0, none⟩) := hd.2.1
          refine .inl ⟨e31, ?_⟩
          exact gives_val (G := fun vv _ => vv = .pointer (some ⟨d, 0, none⟩)) (v := .pointer (some ⟨d, 0, none⟩)) (by simp [execOp, e31, e32, go_sem]) rfl
        · intro ρ wx hE hx hd
          replace hE := Ext.undrew hE
          have e31 : ρ (.tmp 31) = .bool true := hd.1
          have e33 : ρ (.tmp 33) = .pointer (some ⟨d, 0, none⟩) := hd.2.1
          refine .inl ⟨e31, ?_⟩
          exact gives_val (G := fun vv _ => vv = .pointer (some ⟨d, 1, none⟩)) (v := .pointer (some ⟨d, 1, none⟩)) (by simp [execOp, e31, e33, go_sem]) rfl
        · intro ρ wx hE hx hd
          replace hE := Ext.undrew hE
          have e31 : ρ (.tmp 31) = .bool true := hd.1
          have e34 : ρ (.tmp 34) = .pointer (some ⟨d, 1, none⟩) := hd.2.1
          refine .inl ⟨e31, ?_⟩
          have hcl := ext_cell hE HC1.out
          exact gives_val (G := fun vv _ => vv = .map mv) (v := .map mv) (by simp [execOp, e31, e34, hcl, go_sem]) rfl
        · intro ρ wx hE hx hd
          replace hE := Ext.undrew hE
          have e31 : ρ (.tmp 31) = .bool true := hd.1
          have e35 : ρ (.tmp 35) = .map mv := hd.2.1
          refine .inl ⟨e31, ?_⟩
          have hl := HLN.out wx 3 hE; exact gives_val (G := fun vv _ => vv = .int .i64 N) (v := .int .i64 N) (by simp [execOp, e35, hl, go_sem]) rfl
        · intro ρ wx hE hx hd
          replace hE := Ext.undrew hE
          have e31 : ρ (.tmp 31) = .bool true := hd.1
          have e36 : ρ (.tmp 36) = .int .i64 N := hd.2.1
          have hk : ∀ v, ρ (.const v) = v := fun v => (hx (.const v) (by simp)).trans rfl
          refine .inl ⟨e31, ?_⟩
          exact gives_val (G := fun vv _ => vv = .bool true) (v := .bool true) (by simp [execOp, e36, hk, go_sem]; omega) rfl
        · intro ρ wx hE hx hd
          replace hE := Ext.undrew hE
          have e31 : ρ (.tmp 31) = .bool true := hd.1
          have e37 : ρ (.tmp 37) = .bool true := hd.2.1
          have hk : ∀ v, ρ (.const v) = v := fun v => (hx (.const v) (by simp)).trans rfl
          exact gives_val (G := fun vv _ => vv = .bool true) (v := .bool true) (by simp [execOp, e31, e37, hk, go_sem]) rfl
        · intro ρ wx hE hx hd
          replace hE := Ext.undrew hE
          have e39 : ρ (.tmp 39) = .bool true := hd.1
          have e49 : ρ (.tmp 49) = undef := hd.2.1
          have hk : ∀ v, ρ (.const v) = v := fun v => (hx (.const v) (by simp)).trans rfl
          exact gives_val (G := fun vv _ => vv = .bool true) (v := .bool true) (by simp [execOp, e39, e49, hk, go_sem]) rfl
      intro wx hE
      refine fun v29 (e29 : v29 = .bool false) => ?_
      refine fun v30 (e30 : v30 = .bool true) => ?_
      refine fun v31 (e31 : v31 = .bool true) => ?_
      refine fun v32 (e32 : v32 = .pointer (some ⟨d, 0, none⟩)) => ?_
      refine fun v33 (e33 : v33 = .pointer (some ⟨d, 0, none⟩)) => ?_
      refine fun v34 (e34 : v34 = .pointer (some ⟨d, 1, none⟩)) => ?_
      refine fun v35 (e35 : v35 = .map mv) => ?_
      refine fun v36 (e36 : v36 = .int .i64 N) => ?_
      refine fun v37 (e37 : v37 = .bool true) => ?_
      refine fun v38 (e38 : v38 = .bool true) => ?_
      refine fun v39 (e39 : v39 = .bool true) => ?_
      refine fun v40 (e40 : v40 = undef) => ?_
      refine fun v41 (e41 : v41 = undef) => ?_
      refine fun v42 (e42 : v42 = undef) => ?_
      refine fun v43 (e43 : v43 = undef) => ?_
      refine fun v44 (e44 : v44 = undef) => ?_
      refine fun v45 (e45 : v45 = undef) => ?_
      refine fun v46 (e46 : v46 = undef) => ?_
      refine fun v47 (e47 : v47 = undef) => ?_
      refine fun v48 (e48 : v48 = undef) => ?_
      refine fun v49 (e49 : v49 = undef) => ?_
      refine fun v50 (e50 : v50 = .bool true) => ?_
      subst e29 e30 e31 e32 e33 e34 e35 e36 e37 e38 e39 e40 e41 e42 e43 e44 e45 e46 e47 e48 e49 e50
      refine rest_nil ?_
      refine wpList_nil ?_
      simp only [Exit.then, Act.put, List.setIfInBounds_toArray, List.set_cons_zero, List.set_cons_succ]
      refine go_on (by assumption) ?_
      go_wp2_with fail
      go_ret
      exact HR.out _ _ ⟨rfl, ⟨g, tag, mv, (HD2.out.below hE).mono (fun _ _ h => .inl h) fun h => h.elim H.out.out fun h => by have := HDL.out; omega⟩, keep_then HKA2.out (Keep.old hE)⟩
    by_cases hfull : (U : Int) + (n : Int) > dk.room
    · have hR' : ∀ e w', (e = .returned (.int .i64 3) ∧ DAt w' (fun k => S k ∨ w.heap.size ≤ k) d dk.tick ∧ Keep (fun k => S k ∨ k = d) w w') → Pb.Fin (R e w') := fun e w' h => hR e w' (by
        rw [if_pos (by rw [decide_eq_true hfull]; simp)]; exact h)
      have HR := Lib.hid hR'
      clear hR hR'
      refine wp_region_any (by kernel_rfl) ?_
      refine region_ext [(fun vv _ => vv = .bool false), (fun vv _ => vv = .bool true), (fun vv _ => vv = .bool true), (fun vv _ => vv = .pointer (some ⟨d, 0, none⟩)), (fun vv _ => vv = .pointer (some ⟨d, 0, none⟩)), (fun vv _ => vv = .pointer (some ⟨d, 1, none⟩)), (fun vv _ => vv = .map mv), (fun vv _ => vv = .int .i64 N), (fun vv _ => vv = .bool false), (fun vv _ => vv = .bool false), (fun vv _ => vv = .bool false), (fun vv _ => vv = .pointer (some ⟨d, 0, none⟩)), (fun vv _ => vv = .int .i64 U), (fun vv _ => vv = .slice UA n uc), (fun vv _ => vv = .int .i64 n), (fun vv _ => vv = .int .i64 ((U : Int) + (n : Int))), (fun vv _ => vv = .pointer (some ⟨d, 0, none⟩)), (fun vv _ => vv = .pointer (some ⟨d, 0, none⟩)), (fun vv _ => vv = .pointer (some ⟨d, 0, none⟩)), (fun vv _ => vv = .int .i64 dk.room), (fun vv _ => vv = .bool true), (fun vv _ => vv = .bool true)]
        [[], [(0, 29)], [(1, 30)], [(2, 31)], [(2, 31), (3, 32)], [(2, 31), (4, 33)], [(2, 31), (5, 34)], [(2, 31), (6, 35)], [(2, 31), (7, 36)], [(2, 31), (8, 37)], [(9, 38)], [(10, 39)], [(10, 39), (11, 40)], [(10, 39)], [(10, 39), (13, 42)], [(10, 39), (12, 41), (14, 43)], [(10, 39)], [(10, 39), (16, 45)], [(10, 39), (17, 46)], [(10, 39), (18, 47)], [(10, 39), (15, 44), (19, 48)], [(10, 39), (20, 49)]]
        [none, none, none, some (31, true), some (31, true), some (31, true), some (31, true), some (31, true), some (31, true), none, none, some (39, false), some (39, false), some (39, false), some (39, false), some (39, false), some (39, false), some (39, false), some (39, false), some (39, false), some (39, false), none]
        [some 29, some 30, some 31, some 32, some 33, some 34, some 35, some 36, some 37, some 38, some 39, some 40, some 41, some 42, some 43, some 44, some 45, some 46, some 47, some 48, some 49, some 50] 22 (by kernel_rfl) (by kernel_rfl) (by kernel_rfl) rfl (by kernel_rfl) ?_ ?_ ?_
      · exact ⟨fun _ _ _ _ h => h, fun _ _ _ _ h => h, fun _ _ _ _ h => h, fun _ _ _ _ h => h, fun _ _ _ _ h => h, fun _ _ _ _ h => h, fun _ _ _ _ h => h, fun _ _ _ _ h => h, fun _ _ _ _ h => h, fun _ _ _ _ h => h, fun _ _ _ _ h => h, fun _ _ _ _ h => h, fun _ _ _ _ h => h, fun _ _ _ _ h => h, fun _ _ _ _ h => h, fun _ _ _ _ h => h, fun _ _ _ _ h => h, fun _ _ _ _ h => h, fun _ _ _ _ h => h, fun _ _ _ _ h => h, fun _ _ _ _ h => h, fun _ _ _ _ h => h, trivial⟩
      · refine ⟨fun ρ wx _ hx _ => gives_move (hx (.tmp 9) (by simp)), ?_, fun ρ wx _ _ hd => gives_move hd.1, ?_, ?_, ?_, ?_, ?_, ?_, ?_, fun ρ wx _ _ hd => gives_move hd.1, ?_, ?_, ?_, ?_, ?_, ?_, ?_, ?_, ?_, ?_, ?_, trivial⟩
        · intro ρ wx hE hx hd
          replace hE := Ext.undrew hE
          have e29 : ρ (.tmp 29) = .bool false := hd.1
          exact gives_val (G := fun vv _ => vv = .bool true) (v := .bool true) (by simp [execOp, e29, go_sem]) rfl
        · intro ρ wx hE hx hd
          replace hE := Ext.undrew hE
          have e31 : ρ (.tmp 31) = .bool true := hd.1
          have e0 : ρ (.tmp 0) = .pointer (some ⟨d, 0, none⟩) := hx (.tmp 0) (by simp)
          refine .inl ⟨e31, ?_⟩
          exact gives_val (G := fun vv _ => vv = .pointer (some ⟨d, 0, none⟩)) (v := .pointer (some ⟨d, 0, none⟩)) (by simp [execOp, e31, e0, go_sem]) rfl
        · intro ρ wx hE hx hd
          replace hE := Ext.undrew hE
          have e31 : ρ (.tmp 31) = .bool true := hd.1
          have e32 : ρ (.tmp 32) = .pointer (some ⟨d, 0, none⟩) := hd.2.1
          refine .inl ⟨e31, ?_⟩
          exact gives_val (G := fun vv _ => vv = .pointer (some ⟨d, 0, none⟩)) (v := .pointer (some ⟨d, 0, none⟩)) (by simp [execOp, e31, e32, go_sem]) rfl
        · intro ρ wx hE hx hd
          replace hE := Ext.undrew hE
          have e31 : ρ (.tmp 31) = .bool true := hd.1
          have e33 : ρ (.tmp 33) = .pointer (some ⟨d, 0, none⟩) := hd.2.1
          refine .inl ⟨e31, ?_⟩
          exact gives_val (G := fun vv _ => vv = .pointer (some ⟨d, 1, none⟩)) (v := .pointer (some ⟨d, 1, none⟩)) (by simp [execOp, e31, e33, go_sem]) rfl
        · intro ρ wx hE hx hd
          replace hE := Ext.undrew hE
          have e31 : ρ (.tmp 31) = .bool true := hd.1
          have e34 : ρ (.tmp 34) = .pointer (some ⟨d, 1, none⟩) := hd.2.1
          refine .inl ⟨e31, ?_⟩
          have hcl := ext_cell hE HC1.out
          exact gives_val (G := fun vv _ => vv = .map mv) (v := .map mv) (by simp [execOp, e31, e34, hcl, go_sem]) rfl
        · intro ρ wx hE hx hd
          replace hE := Ext.undrew hE
          have e31 : ρ (.tmp 31) = .bool true := hd.1
          have e35 : ρ (.tmp 35) = .map mv := hd.2.1
          refine .inl ⟨e31, ?_⟩
          have hl := HLN.out wx 3 hE; exact gives_val (G := fun vv _ => vv = .int .i64 N) (v := .int .i64 N) (by simp [execOp, e35, hl, go_sem]) rfl
        · intro ρ wx hE hx hd
          replace hE := Ext.undrew hE
          have e31 : ρ (.tmp 31) = .bool true := hd.1
          have e36 : ρ (.tmp 36) = .int .i64 N := hd.2.1
          have hk : ∀ v, ρ (.const v) = v := fun v => (hx (.const v) (by simp)).trans rfl
          refine .inl ⟨e31, ?_⟩
          exact gives_val (G := fun vv _ => vv = .bool false) (v := .bool false) (by simp [execOp, e36, hk, go_sem]; omega) rfl
        · intro ρ wx hE hx hd
          replace hE := Ext.undrew hE
          have e31 : ρ (.tmp 31) = .bool true := hd.1
          have e37 : ρ (.tmp 37) = .bool false := hd.2.1
          have hk : ∀ v, ρ (.const v) = v := fun v => (hx (.const v) (by simp)).trans rfl
          exact gives_val (G := fun vv _ => vv = .bool false) (v := .bool false) (by simp [execOp, e31, e37, hk, go_sem]) rfl
        · intro ρ wx hE hx hd
          replace hE := Ext.undrew hE
          have e39 : ρ (.tmp 39) = .bool false := hd.1
          have e0 : ρ (.tmp 0) = .pointer (some ⟨d, 0, none⟩) := hx (.tmp 0) (by simp)
          refine .inl ⟨e39, ?_⟩
          exact gives_val (G := fun vv _ => vv = .pointer (some ⟨d, 0, none⟩)) (v := .pointer (some ⟨d, 0, none⟩)) (by simp [execOp, e39, e0, go_sem]) rfl
        · intro ρ wx hE hx hd
          replace hE := Ext.undrew hE
          have e39 : ρ (.tmp 39) = .bool false := hd.1
          have e40 : ρ (.tmp 40) = .pointer (some ⟨d, 0, none⟩) := hd.2.1
          have hf : ∀ f, ρ (.func f) = .func (.func f) #[] #[] := fun f => (hx (.func f) (by simp)).trans rfl
          refine .inl ⟨e39, ?_⟩
          refine gives_call (G := fun vv _ => vv = .int .i64 U) (by simp [execOp, e39, e40, hf, go_sem] <;> first | exact ⟨rfl, rfl⟩ | exact rfl) ?_
          exact call_below (HUS.out wx hE)
        · intro ρ wx hE hx hd
          replace hE := Ext.undrew hE
          have e39 : ρ (.tmp 39) = .bool false := hd.1
          have e7 : ρ (.tmp 7) = .slice UA n uc := hx (.tmp 7) (by simp)
          refine .inl ⟨e39, ?_⟩
          exact gives_val (G := fun vv _ => vv = .slice UA n uc) (v := .slice UA n uc) (by simp [execOp, e39, e7, go_sem]) rfl
        · intro ρ wx hE hx hd
          replace hE := Ext.undrew hE
          have e39 : ρ (.tmp 39) = .bool false := hd.1
          have e42 : ρ (.tmp 42) = .slice UA n uc := hd.2.1
          refine .inl ⟨e39, ?_⟩
          exact gives_val (G := fun vv _ => vv = .int .i64 n) (v := .int .i64 n) (by simp [execOp, e39, e42, go_sem]) rfl
        · intro ρ wx hE hx hd
          replace hE := Ext.undrew hE
          have e39 : ρ (.tmp 39) = .bool false := hd.1
          have e41 : ρ (.tmp 41) = .int .i64 U := hd.2.1
          have e43 : ρ (.tmp 43) = .int .i64 n := hd.2.2.1
          refine .inl ⟨e39, ?_⟩
          exact gives_val (G := fun vv _ => vv = .int .i64 ((U : Int) + (n : Int))) (v := .int .i64 ((U : Int) + (n : Int))) (by simp [execOp, e41, e43, go_sem, show IntKind.i64.wrap ((U : Int) + (n : Int)) = (U : Int) + (n : Int) by rw [IntKind.wrap_i64]; omega]) rfl
        · intro ρ wx hE hx hd
          replace hE := Ext.undrew hE
          have e39 : ρ (.tmp 39) = .bool false := hd.1
          have e0 : ρ (.tmp 0) = .pointer (some ⟨d, 0, none⟩) := hx (.tmp 0) (by simp)
          refine .inl ⟨e39, ?_⟩
          exact gives_val (G := fun vv _ => vv = .pointer (some ⟨d, 0, none⟩)) (v := .pointer (some ⟨d, 0, none⟩)) (by simp [execOp, e39, e0, go_sem]) rfl
        · intro ρ wx hE hx hd
          replace hE := Ext.undrew hE
          have e39 : ρ (.tmp 39) = .bool false := hd.1
          have e45 : ρ (.tmp 45) = .pointer (some ⟨d, 0, none⟩) := hd.2.1
          refine .inl ⟨e39, ?_⟩
          exact gives_val (G := fun vv _ => vv = .pointer (some ⟨d, 0, none⟩)) (v := .pointer (some ⟨d, 0, none⟩)) (by simp [execOp, e39, e45, go_sem]) rfl
        · intro ρ wx hE hx hd
          replace hE := Ext.undrew hE
          have e39 : ρ (.tmp 39) = .bool false := hd.1
          have e46 : ρ (.tmp 46) = .pointer (some ⟨d, 0, none⟩) := hd.2.1
          refine .inl ⟨e39, ?_⟩
          exact gives_val (G := fun vv _ => vv = .pointer (some ⟨d, 0, none⟩)) (v := .pointer (some ⟨d, 0, none⟩)) (by simp [execOp, e39, e46, go_sem]) rfl
        · intro ρ wx hE hx hd
          replace hE := Ext.undrew hE
          have e39 : ρ (.tmp 39) = .bool false := hd.1
          have e47 : ρ (.tmp 47) = .pointer (some ⟨d, 0, none⟩) := hd.2.1
          refine .inl ⟨e39, ?_⟩
          have hcl := ext_cell hE HC0.out
          exact gives_val (G := fun vv _ => vv = .int .i64 dk.room) (v := .int .i64 dk.room) (by simp [execOp, e39, e47, hcl, go_sem]) rfl
        · intro ρ wx hE hx hd
          replace hE := Ext.undrew hE
          have e39 : ρ (.tmp 39) = .bool false := hd.1
          have e44 : ρ (.tmp 44) = .int .i64 ((U : Int) + (n : Int)) := hd.2.1
          have e48 : ρ (.tmp 48) = .int .i64 dk.room := hd.2.2.1
          refine .inl ⟨e39, ?_⟩
          exact gives_val (G := fun vv _ => vv = .bool true) (v := .bool true) (by simp [execOp, e44, e48, go_sem]; omega) rfl
        · intro ρ wx hE hx hd
          replace hE := Ext.undrew hE
          have e39 : ρ (.tmp 39) = .bool false := hd.1
          have e49 : ρ (.tmp 49) = .bool true := hd.2.1
          have hk : ∀ v, ρ (.const v) = v := fun v => (hx (.const v) (by simp)).trans rfl
          exact gives_val (G := fun vv _ => vv = .bool true) (v := .bool true) (by simp [execOp, e39, e49, hk, go_sem]) rfl
      intro wx hE
      refine fun v29 (e29 : v29 = .bool false) => ?_
      refine fun v30 (e30 : v30 = .bool true) => ?_
      refine fun v31 (e31 : v31 = .bool true) => ?_
      refine fun v32 (e32 : v32 = .pointer (some ⟨d, 0, none⟩)) => ?_
      refine fun v33 (e33 : v33 = .pointer (some ⟨d, 0, none⟩)) => ?_
      refine fun v34 (e34 : v34 = .pointer (some ⟨d, 1, none⟩)) => ?_
      refine fun v35 (e35 : v35 = .map mv) => ?_
      refine fun v36 (e36 : v36 = .int .i64 N) => ?_
      refine fun v37 (e37 : v37 = .bool false) => ?_
      refine fun v38 (e38 : v38 = .bool false) => ?_
      refine fun v39 (e39 : v39 = .bool false) => ?_
      refine fun v40 (e40 : v40 = .pointer (some ⟨d, 0, none⟩)) => ?_
      refine fun v41 (e41 : v41 = .int .i64 U) => ?_
      refine fun v42 (e42 : v42 = .slice UA n uc) => ?_
      refine fun v43 (e43 : v43 = .int .i64 n) => ?_
      refine fun v44 (e44 : v44 = .int .i64 ((U : Int) + (n : Int))) => ?_
      refine fun v45 (e45 : v45 = .pointer (some ⟨d, 0, none⟩)) => ?_
      refine fun v46 (e46 : v46 = .pointer (some ⟨d, 0, none⟩)) => ?_
      refine fun v47 (e47 : v47 = .pointer (some ⟨d, 0, none⟩)) => ?_
      refine fun v48 (e48 : v48 = .int .i64 dk.room) => ?_
      refine fun v49 (e49 : v49 = .bool true) => ?_
      refine fun v50 (e50 : v50 = .bool true) => ?_
      subst e29 e30 e31 e32 e33 e34 e35 e36 e37 e38 e39 e40 e41 e42 e43 e44 e45 e46 e47 e48 e49 e50
      refine rest_nil ?_
      refine wpList_nil ?_
      simp only [Exit.then, Act.put, List.setIfInBounds_toArray, List.set_cons_zero, List.set_cons_succ]
      refine go_on (by assumption) ?_
      go_wp2_with fail
      go_ret
      exact HR.out _ _ ⟨rfl, ⟨g, tag, mv, (HD2.out.below hE).mono (fun _ _ h => .inl h) fun h => h.elim H.out.out fun h => by have := HDL.out; omega⟩, keep_then HKA2.out (Keep.old hE)⟩
    · have hR' : ∀ e w', (e = .returned (.int .i64 0) ∧ DAt w' (fun k => S k ∨ w.heap.size ≤ k) d { dk.tick with fs := putF dk.fs ⟨toL T, b, 0⟩ } ∧ Keep (fun k => S k ∨ k = d) w w') → Pb.Fin (R e w') := fun e w' h => hR e w' (by
        rw [if_neg (by rw [decide_eq_false hfull, decide_eq_false hmany]; simp)]; exact h)
      have HR := Lib.hid hR'
      clear hR hR'
      refine wp_region_any (by kernel_rfl) ?_
      refine region_ext [(fun vv _ => vv = .bool false), (fun vv _ => vv = .bool true), (fun vv _ => vv = .bool true), (fun vv _ => vv = .pointer (some ⟨d, 0, none⟩)), (fun vv _ => vv = .pointer (some ⟨d, 0, none⟩)), (fun vv _ => vv = .pointer (some ⟨d, 1, none⟩)), (fun vv _ => vv = .map mv), (fun vv _ => vv = .int .i64 N), (fun vv _ => vv = .bool false), (fun vv _ => vv = .bool false), (fun vv _ => vv = .bool false), (fun vv _ => vv = .pointer (some ⟨d, 0, none⟩)), (fun vv _ => vv = .int .i64 U), (fun vv _ => vv = .slice UA n uc), (fun vv _ => vv = .int .i64 n), (fun vv _ => vv = .int .i64 ((U : Int) + (n : Int))), (fun vv _ => vv = .pointer (some ⟨d, 0, none⟩)), (fun vv _ => vv = .pointer (some ⟨d, 0, none⟩)), (fun vv _ => vv = .pointer (some ⟨d, 0, none⟩)), (fun vv _ => vv = .int .i64 dk.room), (fun vv _ => vv = .bool false), (fun vv _ => vv = .bool false)]
        [[], [(0, 29)], [(1, 30)], [(2, 31)], [(2, 31), (3, 32)], [(2, 31), (4, 33)], [(2, 31), (5, 34)], [(2, 31), (6, 35)], [(2, 31), (7, 36)], [(2, 31), (8, 37)], [(9, 38)], [(10, 39)], [(10, 39), (11, 40)], [(10, 39)], [(10, 39), (13, 42)], [(10, 39), (12, 41), (14, 43)], [(10, 39)], [(10, 39), (16, 45)], [(10, 39), (17, 46)], [(10, 39), (18, 47)], [(10, 39), (15, 44), (19, 48)], [(10, 39), (20, 49)]]
        [none, none, none, some (31, true), some (31, true), some (31, true), some (31, true), some (31, true), some (31, true), none, none, some (39, false), some (39, false), some (39, false), some (39, false), some (39, false), some (39, false), some (39, false), some (39, false), some (39, false), some (39, false), none]
        [some 29, some 30, some 31, some 32, some 33, some 34, some 35, some 36, some 37, some 38, some 39, some 40, some 41, some 42, some 43, some 44, some 45, some 46, some 47, some 48, some 49, some 50] 22 (by kernel_rfl) (by kernel_rfl) (by kernel_rfl) rfl (by kernel_rfl) ?_ ?_ ?_
      · exact ⟨fun _ _ _ _ h => h, fun _ _ _ _ h => h, fun _ _ _ _ h => h, fun _ _ _ _ h => h, fun _ _ _ _ h => h, fun _ _ _ _ h => h, fun _ _ _ _ h => h, fun _ _ _ _ h => h, fun _ _ _ _ h => h, fun _ _ _ _ h => h, fun _ _ _ _ h => h, fun _ _ _ _ h => h, fun _ _ _ _ h => h, fun _ _ _ _ h => h, fun _ _ _ _ h => h, fun _ _ _ _ h => h, fun _ _ _ _ h => h, fun _ _ _ _ h => h, fun _ _ _ _ h => h, fun _ _ _ _ h => h, fun _ _ _ _ h => h, fun _ _ _ _ h => h, trivial⟩
      · refine ⟨fun ρ wx _ hx _ => gives_move (hx (.tmp 9) (by simp)), ?_, fun ρ wx _ _ hd => gives_move hd.1, ?_, ?_, ?_, ?_, ?_, ?_, ?_, fun ρ wx _ _ hd => gives_move hd.1, ?_, ?_, ?_, ?_, ?_, ?_, ?_, ?_, ?_, ?_, ?_, trivial⟩
        · intro ρ wx hE hx hd
          replace hE := Ext.undrew hE
          have e29 : ρ (.tmp 29) = .bool false := hd.1
          exact gives_val (G := fun vv _ => vv = .bool true) (v := .bool true) (by simp [execOp, e29, go_sem]) rfl
        · intro ρ wx hE hx hd
          replace hE := Ext.undrew hE
          have e31 : ρ (.tmp 31) = .bool true := hd.1
          have e0 : ρ (.tmp 0) = .pointer (some ⟨d, 0, none⟩) := hx (.tmp 0) (by simp)
          refine .inl ⟨e31, ?_⟩
          exact gives_val (G := fun vv _ => vv = .pointer (some ⟨d, 0, none⟩)) (v := .pointer (some ⟨d, 0, none⟩)) (by simp [execOp, e31, e0, go_sem]) rfl
        · intro ρ wx hE hx hd
          replace hE := Ext.undrew hE
          have e31 : ρ (.tmp 31) = .bool true := hd.1
          have e32 : ρ (.tmp 32) = .pointer (some ⟨d, 0, none⟩) := hd.2.1
          refine .inl ⟨e31, ?_⟩
          exact gives_val (G := fun vv _ => vv = .pointer (some ⟨d, 0, none⟩)) (v := .pointer (some ⟨d, 0, none⟩)) (by simp [execOp, e31, e32, go_sem]) rfl
        · intro ρ wx hE hx hd
          replace hE := Ext.undrew hE
          have e31 : ρ (.tmp 31) = .bool true := hd.1
          have e33 : ρ (.tmp 33) = .pointer (some ⟨d, 0, none⟩) := hd.2.1
          refine .inl ⟨e31, ?_⟩
          exact gives_val (G := fun vv _ => vv = .pointer (some ⟨d, 1, none⟩)) (v := .pointer (some ⟨d, 1, none⟩)) (by simp [execOp, e31, e33, go_sem]) rfl
        · intro ρ wx hE hx hd
          replace hE := Ext.undrew hE
          have e31 : ρ (.tmp 31) = .bool true := hd.1
          have e34 : ρ (.tmp 34) = .pointer (some ⟨d, 1, none⟩) := hd.2.1
          refine .inl ⟨e31, ?_⟩
          have hcl := ext_cell hE HC1.out
          exact gives_val (G := fun vv _ => vv = .map mv) (v := .map mv) (by simp [execOp, e31, e34, hcl, go_sem]) rfl
        · intro ρ wx hE hx hd
          replace hE := Ext.undrew hE
          have e31 : ρ (.tmp 31) = .bool true := hd.1
          have e35 : ρ (.tmp 35) = .map mv := hd.2.1
          refine .inl ⟨e31, ?_⟩
          have hl := HLN.out wx 3 hE; exact gives_val (G := fun vv _ => vv = .int .i64 N) (v := .int .i64 N) (by simp [execOp, e35, hl, go_sem]) rfl
        · intro ρ wx hE hx hd
          replace hE := Ext.undrew hE
          have e31 : ρ (.tmp 31) = .bool true := hd.1
          have e36 : ρ (.tmp 36) = .int .i64 N := hd.2.1
          have hk : ∀ v, ρ (.const v) = v := fun v => (hx (.const v) (by simp)).trans rfl
          refine .inl ⟨e31, ?_⟩
          exact gives_val (G := fun vv _ => vv = .bool false) (v := .bool false) (by simp [execOp, e36, hk, go_sem]; omega) rfl
        · intro ρ wx hE hx hd
          replace hE := Ext.undrew hE
          have e31 : ρ (.tmp 31) = .bool true := hd.1
          have e37 : ρ (.tmp 37) = .bool false := hd.2.1
          have hk : ∀ v, ρ (.const v) = v := fun v => (hx (.const v) (by simp)).trans rfl
          exact gives_val (G := fun vv _ => vv = .bool false) (v := .bool false) (by simp [execOp, e31, e37, hk, go_sem]) rfl
        · intro ρ wx hE hx hd
          replace hE := Ext.undrew hE
          have e39 : ρ (.tmp 39) = .bool false := hd.1
          have e0 : ρ (.tmp 0) = .pointer (some ⟨d, 0, none⟩) := hx (.tmp 0) (by simp)
          refine .inl ⟨e39, ?_⟩
          exact gives_val (G := fun vv _ => vv = .pointer (some ⟨d, 0, none⟩)) (v := .pointer (some ⟨d, 0, none⟩)) (by simp [execOp, e39, e0, go_sem]) rfl
        · intro ρ wx hE hx hd
          replace hE := Ext.undrew hE
          have e39 : ρ (.tmp 39) = .bool false := hd.1
          have e40 : ρ (.tmp 40) = .pointer (some ⟨d, 0, none⟩) := hd.2.1
          have hf : ∀ f, ρ (.func f) = .func (.func f) #[] #[] := fun f => (hx (.func f) (by simp)).trans rfl
          refine .inl ⟨e39, ?_⟩
          refine gives_call (G := fun vv _ => vv = .int .i64 U) (by simp [execOp, e39, e40, hf, go_sem] <;> first | exact ⟨rfl, rfl⟩ | exact rfl) ?_
          exact call_below (HUS.out wx hE)
        · intro ρ wx hE hx hd
          replace hE := Ext.undrew hE
          have e39 : ρ (.tmp 39) = .bool false := hd.1
          have e7 : ρ (.tmp 7) = .slice UA n uc := hx (.tmp 7) (by simp)
          refine .inl ⟨e39, ?_⟩
          exact gives_val (G := fun vv _ => vv = .slice UA n uc) (v := .slice UA n uc) (by simp [execOp, e39, e7, go_sem]) rfl
        · intro ρ wx hE hx hd
          replace hE := Ext.undrew hE
          have e39 : ρ (.tmp 39) = .bool false := hd.1
          have e42 : ρ (.tmp 42) = .slice UA n uc := hd.2.1
          refine .inl ⟨e39, ?_⟩
          exact gives_val (G := fun vv _ => vv = .int .i64 n) (v := .int .i64 n) (by simp [execOp, e39, e42, go_sem]) rfl
        · intro ρ wx hE hx hd
          replace hE := Ext.undrew hE
          have e39 : ρ (.tmp 39) = .bool false := hd.1
          have e41 : ρ (.tmp 41) = .int .i64 U := hd.2.1
          have e43 : ρ (.tmp 43) = .int .i64 n := hd.2.2.1
          refine .inl ⟨e39, ?_⟩
          exact gives_val (G := fun vv _ => vv = .int .i64 ((U : Int) + (n : Int))) (v := .int .i64 ((U : Int) + (n : Int))) (by simp [execOp, e41, e43, go_sem, show IntKind.i64.wrap ((U : Int) + (n : Int)) = (U : Int) + (n : Int) by rw [IntKind.wrap_i64]; omega]) rfl
        · intro ρ wx hE hx hd
          replace hE := Ext.undrew hE
          have e39 : ρ (.tmp 39) = .bool false := hd.1
          have e0 : ρ (.tmp 0) = .pointer (some ⟨d, 0, none⟩) := hx (.tmp 0) (by simp)
          refine .inl ⟨e39, ?_⟩
          exact gives_val (G := fun vv _ => vv = .pointer (some ⟨d, 0, none⟩)) (v := .pointer (some ⟨d, 0, none⟩)) (by simp [execOp, e39, e0, go_sem]) rfl
        · intro ρ wx hE hx hd
          replace hE := Ext.undrew hE
          have e39 : ρ (.tmp 39) = .bool false := hd.1
          have e45 : ρ (.tmp 45) = .pointer (some ⟨d, 0, none⟩) := hd.2.1
          refine .inl ⟨e39, ?_⟩
          exact gives_val (G := fun vv _ => vv = .pointer (some ⟨d, 0, none⟩)) (v := .pointer (some ⟨d, 0, none⟩)) (by simp [execOp, e39, e45, go_sem]) rfl
        · intro ρ wx hE hx hd
          replace hE := Ext.undrew hE
          have e39 : ρ (.tmp 39) = .bool false := hd.1
          have e46 : ρ (.tmp 46) = .pointer (some ⟨d, 0, none⟩) := hd.2.1
          refine .inl ⟨e39, ?_⟩
          exact gives_val (G := fun vv _ => vv = .pointer (some ⟨d, 0, none⟩)) (v := .pointer (some ⟨d, 0, none⟩)) (by simp [execOp, e39, e46, go_sem]) rfl
        · intro ρ wx hE hx hd
          replace hE := Ext.undrew hE
          have e39 : ρ (.tmp 39) = .bool false := hd.1
          have e47 : ρ (.tmp 47) = .pointer (some ⟨d, 0, none⟩) := hd.2.1
          refine .inl ⟨e39, ?_⟩
          have hcl := ext_cell hE HC0.out
          exact gives_val (G := fun vv _ => vv = .int .i64 dk.room) (v := .int .i64 dk.room) (by simp [execOp, e39, e47, hcl, go_sem]) rfl
        · intro ρ wx hE hx hd
          replace hE := Ext.undrew hE
          have e39 : ρ (.tmp 39) = .bool false := hd.1
          have e44 : ρ (.tmp 44) = .int .i64 ((U : Int) + (n : Int)) := hd.2.1
          have e48 : ρ (.tmp 48) = .int .i64 dk.room := hd.2.2.1
          refine .inl ⟨e39, ?_⟩
          exact gives_val (G := fun vv _ => vv = .bool false) (v := .bool false) (by simp [execOp, e44, e48, go_sem]; omega) rfl
        · intro ρ wx hE hx hd
          replace hE := Ext.undrew hE
          have e39 : ρ (.tmp 39) = .bool false := hd.1
          have e49 : ρ (.tmp 49) = .bool false := hd.2.1
          have hk : ∀ v, ρ (.const v) = v := fun v => (hx (.const v) (by simp)).trans rfl
          exact gives_val (G := fun vv _ => vv = .bool false) (v := .bool false) (by simp [execOp, e39, e49, hk, go_sem]) rfl
      intro wx hE
      refine fun v29 (e29 : v29 = .bool false) => ?_
      refine fun v30 (e30 : v30 = .bool true) => ?_
      refine fun v31 (e31 : v31 = .bool true) => ?_
      refine fun v32 (e32 : v32 = .pointer (some ⟨d, 0, none⟩)) => ?_
      refine fun v33 (e33 : v33 = .pointer (some ⟨d, 0, none⟩)) => ?_
      refine fun v34 (e34 : v34 = .pointer (some ⟨d, 1, none⟩)) => ?_
      refine fun v35 (e35 : v35 = .map mv) => ?_
      refine fun v36 (e36 : v36 = .int .i64 N) => ?_
      refine fun v37 (e37 : v37 = .bool false) => ?_
      refine fun v38 (e38 : v38 = .bool false) => ?_
      refine fun v39 (e39 : v39 = .bool false) => ?_
      refine fun v40 (e40 : v40 = .pointer (some ⟨d, 0, none⟩)) => ?_
      refine fun v41 (e41 : v41 = .int .i64 U) => ?_
      refine fun v42 (e42 : v42 = .slice UA n uc) => ?_
      refine fun v43 (e43 : v43 = .int .i64 n) => ?_
      refine fun v44 (e44 : v44 = .int .i64 ((U : Int) + (n : Int))) => ?_
      refine fun v45 (e45 : v45 = .pointer (some ⟨d, 0, none⟩)) => ?_
      refine fun v46 (e46 : v46 = .pointer (some ⟨d, 0, none⟩)) => ?_
      refine fun v47 (e47 : v47 = .pointer (some ⟨d, 0, none⟩)) => ?_
      refine fun v48 (e48 : v48 = .int .i64 dk.room) => ?_
      refine fun v49 (e49 : v49 = .bool false) => ?_
      refine fun v50 (e50 : v50 = .bool false) => ?_
      subst e29 e30 e31 e32 e33 e34 e35 e36 e37 e38 e39 e40 e41 e42 e43 e44 e45 e46 e47 e48 e49 e50
      refine rest_nil ?_
      refine wpList_nil ?_
      simp only [Exit.then, Act.put, List.setIfInBounds_toArray, List.set_cons_zero, List.set_cons_succ]
      refine go_on (by assumption) ?_
      have HE := Lib.hid hE
      have HDX := Lib.hid ((HD2.out.below hE).mono (S' := fun k => S k ∧ k < wx.heap.size) (fun k hk h => ⟨h, hk⟩) (fun h => H.out.out h.1))
      have HUX : Hid (View Rp.u8 wx (fun k => w1.heap.size ≤ k ∧ k < wx.heap.size) b (.slice UA n uc)) := Lib.hid (by have h := (HO2.out.below hE).view.bnd; rw [HN.out] at h; exact h)
      have hws : w1.heap.size ≤ wx.heap.size := Nat.le_trans HB2.out.size hE.size
      clear hE
      obtain ⟨w4, hw4⟩ : ∃ w4, wx.alloc (.cells #[.slice none 0 0, .int .i64 0] 70) = w4 := ⟨_, rfl⟩
      have HW4 := Lib.hid hw4
      have HB4 : Hid (Below wx.heap.size wx w4) := Lib.hid (hw4 ▸ below_new wx _)
      have HF4 : Hid (w4.heap[wx.heap.size]? = some (.cells #[.slice none 0 0, .int .i64 0] 70 (0, 0))) := Lib.hid (hw4 ▸ blk_new wx _)
      have HZ4 : Hid (w4.heap.size = wx.heap.size + 1) := Lib.hid (by rw [← hw4]; simp)
      have HD4 := Lib.hid (HDX.out.below HB4.out)
      have HU4 := Lib.hid (HUX.out.below HB4.out)
      have HKW4 : Hid (Keep (fun k => S k ∨ k = d) w w4) := Lib.hid (keep_then (keep_then HKA2.out (Keep.old HE.out)) (Keep.old HB4.out))
      clear hw4
      go_upto_region 13 with fail
      rw [HW4.out]
      have c4 := blk_cell HD4.out.blk 1
      have f4 := blk_free HD4.out.blk 1
      simp only [dcells, List.getElem?_toArray, List.getElem?_cons_zero, List.getElem?_cons_succ] at c4
      have hlt4 := HD4.out.lt
      cases mv with
      | none =>
        obtain ⟨mb, hmb⟩ : ∃ mb, w4.heap.size = mb := ⟨_, rfl⟩
        obtain ⟨w5, hw5⟩ : ∃ w5, (w4.setCell ⟨d, 1, none⟩ (.map (some mb))).alloc (.map #[] 0) = w5 := ⟨_, rfl⟩
        have hka : Keep (fun k => k = d) w4 w5 := hw5 ▸ ((Keep.refl (fun k => k = d) w4).set (p := ⟨d, 1, none⟩) rfl (.map (some mb))).new (.map #[] 0)
        have hbd : w5.heap[d]? = some (.cells (dcells dk.tick (some mb)).toArray 61 (0, 0)) := by
          have h2 := blk_set HD4.out.blk 1 (.map (some mb))
          have h1 := (Below.heap_alloc (w4.setCell ⟨d, 1, none⟩ (.map (some mb))) (.map #[] 0) d (by rw [size_setCell]; exact hlt4)).trans h2
          rw [hw5] at h1; exact h1
        have hmp : MapAt w5 mb (fun _ => none) 0 := by
          have h1 := MapAt.made (w4.setCell ⟨d, 1, none⟩ (.map (some mb)))
          rw [size_setCell, hmb, hw5] at h1
          exact h1
        have HD5 := Lib.hid (HD4.out.makeMap hka hbd hmp (by omega))
        have HW5 := Lib.hid hw5; have HMBE := Lib.hid hmb
        have HMB : Hid (wx.heap.size ≠ mb ∧ ¬ (w1.heap.size ≤ mb ∧ mb < wx.heap.size)) := Lib.hid (by have := HZ4.out; omega)
        have HF5 : Hid (w5.heap[wx.heap.size]? = some (.cells #[.slice none 0 0, .int .i64 0] 70 (0, 0))) := Lib.hid (hka.blk HF4.out (by have := HKA2.out.size; have := HE.out.size; have := HDL.out; omega))
        have HU5 : Hid (View Rp.u8 w5 (fun k => w1.heap.size ≤ k ∧ k < wx.heap.size) b (.slice UA n uc)) := Lib.hid (HU4.out.keep hka fun k h e => by have := HK1.out.size; have := HDL.out; omega)
        have HS5 : Hid (∀ k, ((S k ∧ k < wx.heap.size) ∨ k = mb) → (S k ∨ w.heap.size ≤ k) ∧ (k < wx.heap.size ∨ k = mb)) := Lib.hid fun k h => h.elim (fun h => ⟨.inl h.1, .inl h.2⟩) fun h => ⟨.inr (by have := HZ4.out; have := HKA2.out.size; have := HE.out.size; omega), .inr h⟩
        have HT5 : Hid (∀ k, k ≠ mb → tag k = (if k = mb then none else tag k)) := Lib.hid fun k h => by rw [if_neg h]
        have HKW5 : Hid (Keep (fun k => S k ∨ k = d) w w5) := Lib.hid (HKW4.out.trans hka fun _ _ h => .inr h)
        have HMW : Hid (∀ k, k < w.heap.size → k = mb → S k ∨ k = d) := Lib.hid fun k hk h => by have := HZ4.out; have := HKA2.out.size; have := HE.out.size; omega
        clear hka hbd hmp hw5 hmb
        have hmm := @run_makeMap Try.prog
        have hnm := nil_map_eq
        go_upto_region 15 with fail
        clear hmm
        rw [HMBE.out, HW5.out]
        clear c4 f4 hlt4
        obtain ⟨hm5, _, htm5⟩ := HD5.out.map mb rfl
        obtain ⟨w6, hrun6, hm6, ht6⟩ := hm5.store (by show dk.fs.length < 1000000; rw [HNN.out]; omega) hT wx.heap.size
        rw [HG.out] at hm6
        replace hm6 : MapAt w6 mb (upd g (toL T) (some wx.heap.size)) (dk.fs.length + 1) := hm6
        have hk6 := turned_keep ht6
        have HM6 := Lib.hid hm6; have HK6 := Lib.hid hk6
        have hfbm : wx.heap.size ≠ mb := HMB.out.1
        have c1 := blk_cell HD5.out.blk 1
        simp only [dcells, List.getElem?_toArray, List.getElem?_cons_zero, List.getElem?_cons_succ] at c1
        have hltd := HD5.out.lt
        have hg6 := hk6.blk HF5.out hfbm
        have HG6 := Lib.hid hg6
        have c6 := blk_cell hg6 0
        have f6 := blk_free hg6 0
        simp only [List.getElem?_toArray, List.getElem?_cons_zero] at c6
        have hl6 := blk_lt hg6
        have HU6 : Hid (View Rp.u8 w6 (fun k => w1.heap.size ≤ k ∧ k < wx.heap.size) b (.slice UA n uc)) := Lib.hid (HU5.out.keep hk6 fun k h e => HMB.out.2 (e ▸ h))
        clear hm5 hm6 hk6 hg6 ht6 htm5
        go_wp2_with (with_reducible (first | refine stop_append ?_))
        refine ⟨wp_append_view (v := .slice none 0 0) (r := Rp.u8) (xs := []) (F := fun _ => False) Try.underlying28 info5 rfl (show 0 < 1 by decide) (Own.nil _ _ _ _) rfl rfl HU6.out (fun j _ e => by simp [Value.ownBlock] at e) (by unfold maxLen; simp; rw [HN.out]; omega) (by simp; rw [HN.out]; omega) ?_⟩
        intro v7 w7 ho7 hk7 _ hb7
        rw [List.nil_append] at ho7
        obtain ⟨A7, c7, rfl, hc7⟩ := ho7.slice
        have HO7 := Lib.hid (own_self ho7); have HK7 := Lib.hid hk7; have HB7 := Lib.hid hb7
        have hnf : ¬ some wx.heap.size = (Value.slice none 0 0).ownBlock := fun e => by simp [Value.ownBlock] at e
        have hg7 := hk7.blk HG6.out hnf
        have HG7 := Lib.hid hg7
        have d7 := blk_cell hg7 0
        have f7 := blk_free hg7 0
        simp only [List.getElem?_toArray, List.getElem?_cons_zero] at d7
        have hl7 := blk_lt hg7
        clear ho7 hk7 hb7 hg7 hnf
        go_wp2_with fail
        go_ret
        have kS := (Keep.refl (fun k => k = wx.heap.size) w7).set (p := ⟨wx.heap.size, 0, none⟩) rfl (.slice A7 b.length c7)
        have hown7 : ∀ k, (Value.slice A7 b.length c7).ownBlock = some k → w6.heap.size ≤ k ∧ k ≠ wx.heap.size := fun k hk => by
          rcases HB7.out with e | ⟨i, e, hi⟩
          · rw [e] at hk; simp [Value.ownBlock] at hk
          · rw [e] at hk; cases hk
            exact ⟨hi, by omega⟩
        have hk78 : Keep (fun k => k = wx.heap.size) w6 (w7.setCell ⟨wx.heap.size, 0, none⟩ (.slice A7 b.length c7)) := (HK7.out.mono fun k _ e => by simp [Value.ownBlock] at e).trans kS fun _ _ h => h
        have hk58 : Keep (fun k => k = mb ∨ k = wx.heap.size) w5 (w7.setCell ⟨wx.heap.size, 0, none⟩ (.slice A7 b.length c7)) := (HK6.out.mono fun _ _ h => .inl h).trans hk78 fun _ _ h => .inr h
        have hs5 : wx.heap.size ≤ w5.heap.size := Nat.le_of_lt (blk_lt HF5.out)
        have hds := HD5.out.addFile (f := ⟨toL T, b, 0⟩) (fb := wx.heap.size) (v := .slice A7 b.length c7) (S' := fun k => S k ∨ w.heap.size ≤ k) (tag' := fun k => if k = mb then none else if wx.heap.size ≤ k then some (toL T) else tag k)
          HL.out (hk58.mono fun k _ h => h.imp id fun e => by rw [e]; exact ⟨fun h => HS5.out _ h |>.2.elim (fun h => Nat.lt_irrefl _ h) (fun h => hfbm h), by have := HKA2.out.size; have := HE.out.size; have := HDL.out; omega⟩)
          (HM6.out.move (hk78.block mb HM6.out.lt (fun e => hfbm e.symm)))
          ⟨blk_set HG7.out 0 _, HO7.out.keep kS fun k hk e => (hown7 k hk).2 e, ⟨.inr (by have := HKA2.out.size; have := HE.out.size; omega), by rw [if_neg hfbm, if_pos (Nat.le_refl _)]⟩, fun k hk => by
            have h1 := hown7 k hk
            have h2 : mb < w6.heap.size := HM6.out.lt
            have h3 := HK6.out.size
            exact ⟨⟨.inr (by have := HKA2.out.size; have := HE.out.size; omega), by rw [if_neg (by omega), if_pos (by omega)]⟩, h1.2⟩⟩
          (fun k h => (HS5.out k h).1) (fun h => h.elim H.out.out fun h => by have := HDL.out; omega)
          (fun k h hne => by
            rw [if_neg hne]
            rcases (HS5.out k h).2 with h2 | h2
            · first | exact (if_neg (by omega)).trans (HT5.out k hne) | exact if_neg (by omega)
            · exact (hne h2).elim) (by simp) (Nat.zero_le _) hbad
        exact HR.out _ _ ⟨rfl, ⟨_, _, _, hds⟩, (HKW5.out).trans hk58 fun k hk h => by
          rcases h with h | h
          · exact HMW.out k hk h
          · have := HKA2.out.size; have := HE.out.size; omega⟩
      | some mb =>
        obtain ⟨w5, hw5⟩ : ∃ w5, w4 = w5 := ⟨_, rfl⟩
        rw [hw5] at HD4 HF4 HU4 HKW4 c4 f4 hlt4 ⊢
        clear hw5
        have HD5 := HD4
        have HF5 := HF4
        have HU5 := HU4
        have HKW5 := HKW4
        have hmo := (HD1.out.map mb rfl).1.lt
        have HMB : Hid (wx.heap.size ≠ mb ∧ ¬ (w1.heap.size ≤ mb ∧ mb < wx.heap.size)) := Lib.hid (by omega)
        have HS5 : Hid (∀ k, (S k ∧ k < wx.heap.size) → (S k ∨ w.heap.size ≤ k) ∧ (k < wx.heap.size ∨ k = mb)) := Lib.hid fun k h => ⟨.inl h.1, .inl h.2⟩
        have HT5 : Hid (∀ k, k ≠ mb → tag k = tag k) := Lib.hid fun k h => rfl
        have HMW : Hid (∀ k, k < w.heap.size → k = mb → S k ∨ k = d) := Lib.hid fun k _ h => .inl (by rw [h]; exact (HD1.out.map mb rfl).2.1)
        clear hmo
        have hnm : (binOp .eql 59 (.map (some mb)) (.map none)).run Try.prog w5 = .ok (.bool false) w5 := nil_map_eq w5 (some mb)
        go_upto_region 15 with fail
        clear c4 f4 hlt4
        obtain ⟨hm5, _, htm5⟩ := HD5.out.map mb rfl
        obtain ⟨w6, hrun6, hm6, ht6⟩ := hm5.store (by show dk.fs.length < 1000000; rw [HNN.out]; omega) hT wx.heap.size
        rw [HG.out] at hm6
        replace hm6 : MapAt w6 mb (upd g (toL T) (some wx.heap.size)) (dk.fs.length + 1) := hm6
        have hk6 := turned_keep ht6
        have HM6 := Lib.hid hm6; have HK6 := Lib.hid hk6
        have hfbm : wx.heap.size ≠ mb := HMB.out.1
        have c1 := blk_cell HD5.out.blk 1
        simp only [dcells, List.getElem?_toArray, List.getElem?_cons_zero, List.getElem?_cons_succ] at c1
        have hltd := HD5.out.lt
        have hg6 := hk6.blk HF5.out hfbm
        have HG6 := Lib.hid hg6
        have c6 := blk_cell hg6 0
        have f6 := blk_free hg6 0
        simp only [List.getElem?_toArray, List.getElem?_cons_zero] at c6
        have hl6 := blk_lt hg6
        have HU6 : Hid (View Rp.u8 w6 (fun k => w1.heap.size ≤ k ∧ k < wx.heap.size) b (.slice UA n uc)) := Lib.hid (HU5.out.keep hk6 fun k h e => HMB.out.2 (e ▸ h))
        clear hm5 hm6 hk6 hg6 ht6 htm5
        go_wp2_with (with_reducible (first | refine stop_append ?_))
        refine ⟨wp_append_view (v := .slice none 0 0) (r := Rp.u8) (xs := []) (F := fun _ => False) Try.underlying28 info5 rfl (show 0 < 1 by decide) (Own.nil _ _ _ _) rfl rfl HU6.out (fun j _ e => by simp [Value.ownBlock] at e) (by unfold maxLen; simp; rw [HN.out]; omega) (by simp; rw [HN.out]; omega) ?_⟩
        intro v7 w7 ho7 hk7 _ hb7
        rw [List.nil_append] at ho7
        obtain ⟨A7, c7, rfl, hc7⟩ := ho7.slice
        have HO7 := Lib.hid (own_self ho7); have HK7 := Lib.hid hk7; have HB7 := Lib.hid hb7
        have hnf : ¬ some wx.heap.size = (Value.slice none 0 0).ownBlock := fun e => by simp [Value.ownBlock] at e
        have hg7 := hk7.blk HG6.out hnf
        have HG7 := Lib.hid hg7
        have d7 := blk_cell hg7 0
        have f7 := blk_free hg7 0
        simp only [List.getElem?_toArray, List.getElem?_cons_zero] at d7
        have hl7 := blk_lt hg7
        clear ho7 hk7 hb7 hg7 hnf
        go_wp2_with fail
        go_ret
        have kS := (Keep.refl (fun k => k = wx.heap.size) w7).set (p := ⟨wx.heap.size, 0, none⟩) rfl (.slice A7 b.length c7)
        have hown7 : ∀ k, (Value.slice A7 b.length c7).ownBlock = some k → w6.heap.size ≤ k ∧ k ≠ wx.heap.size := fun k hk => by
          rcases HB7.out with e | ⟨i, e, hi⟩
          · rw [e] at hk; simp [Value.ownBlock] at hk
          · rw [e] at hk; cases hk
            exact ⟨hi, by omega⟩
        have hk78 : Keep (fun k => k = wx.heap.size) w6 (w7.setCell ⟨wx.heap.size, 0, none⟩ (.slice A7 b.length c7)) := (HK7.out.mono fun k _ e => by simp [Value.ownBlock] at e).trans kS fun _ _ h => h
        have hk58 : Keep (fun k => k = mb ∨ k = wx.heap.size) w5 (w7.setCell ⟨wx.heap.size, 0, none⟩ (.slice A7 b.length c7)) := (HK6.out.mono fun _ _ h => .inl h).trans hk78 fun _ _ h => .inr h
        have hs5 : wx.heap.size ≤ w5.heap.size := Nat.le_of_lt (blk_lt HF5.out)
        have hds := HD5.out.addFile (f := ⟨toL T, b, 0⟩) (fb := wx.heap.size) (v := .slice A7 b.length c7) (S' := fun k => S k ∨ w.heap.size ≤ k) (tag' := fun k => if k = mb then none else if wx.heap.size ≤ k then some (toL T) else tag k)
          HL.out (hk58.mono fun k _ h => h.imp id fun e => by rw [e]; exact ⟨fun h => HS5.out _ h |>.2.elim (fun h => Nat.lt_irrefl _ h) (fun h => hfbm h), by have := HKA2.out.size; have := HE.out.size; have := HDL.out; omega⟩)
          (HM6.out.move (hk78.block mb HM6.out.lt (fun e => hfbm e.symm)))
          ⟨blk_set HG7.out 0 _, HO7.out.keep kS fun k hk e => (hown7 k hk).2 e, ⟨.inr (by have := HKA2.out.size; have := HE.out.size; omega), by rw [if_neg hfbm, if_pos (Nat.le_refl _)]⟩, fun k hk => by
            have h1 := hown7 k hk
            have h2 : mb < w6.heap.size := HM6.out.lt
            have h3 := HK6.out.size
            exact ⟨⟨.inr (by have := HKA2.out.size; have := HE.out.size; omega), by rw [if_neg (by omega), if_pos (by omega)]⟩, h1.2⟩⟩
          (fun k h => (HS5.out k h).1) (fun h => h.elim H.out.out fun h => by have := HDL.out; omega)
          (fun k h hne => by
            rw [if_neg hne]
            rcases (HS5.out k h).2 with h2 | h2
            · first | exact (if_neg (by omega)).trans (HT5.out k hne) | exact if_neg (by omega)
            · exact (hne h2).elim) (by simp) (Nat.zero_le _) hbad
        exact HR.out _ _ ⟨rfl, ⟨_, _, _, hds⟩, (HKW5.out).trans hk58 fun k hk h => by
          rcases h with h | h
          · exact HMW.out k hk h
          · have := HKA2.out.size; have := HE.out.size; omega⟩

end Go.Proofs.Ytlfcbhagbdonhaa.Asc
